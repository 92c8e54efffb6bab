/- A verified evaluator for a part of the language: each function of the program becomes a plain function, and its contract is proved once for all. -/
import Derived.WalkKit
import Derived.ChangeKeysEq
set_option linter.unusedVariables false
set_option linter.unusedSimpArgs false
/- What a Go function computes, as a plain function: types, values, states, operations. -/
namespace Go.Proofs.Fr
open Go

inductive Ty where
  | int (k : IntKind)
  | bool
  | str
  | sl (E : Nat) (t : Ty)
  | nil
  | cons (a b : Ty)
  deriving DecidableEq

@[reducible] def Ty.den : Ty → Type
  | .int _ => Int
  | .bool => Bool
  | .str => ByteArray
  | .sl _ t => List t.den
  | .nil => Unit
  | .cons a b => a.den × b.den

def Ty.sz : Ty → Nat
  | .nil => 0
  | .cons a b => a.sz + b.sz
  | _ => 1

def Ty.zero : (t : Ty) → t.den
  | .int _ => (0 : Int)
  | .bool => false
  | .str => ByteArray.empty
  | .sl _ _ => []
  | .nil => ()
  | .cons a b => (a.zero, b.zero)

def Ty.isAgg : Ty → Bool
  | .nil | .cons .. => true
  | _ => false

/-- One cell's value. -/
inductive L where
  | undef
  | skip
  | int (k : IntKind) (n : Int)
  | bool (b : Bool)
  | str (s : ByteArray)
  | row (E : Nat) (t : Ty) (xs : List t.den)
  | nils
  | own (id : Nat)
  | ptr (id off : Nat)
  | elo (id i off : Nat)
  | els (E : Nat) (t : Ty) (xs : List t.den) (i off : Nat)
  | nilp
  | fn (f : Nat)
  | ub
  | cl (id : Nat)
  | cut (id n : Nat)
  | vi (id lo hi : Nat)

def L.ids : L → List Nat
  | .own id | .ptr id _ | .elo id _ _ | .cl id | .cut id _ | .vi id _ _ => [id]
  | _ => []

inductive D0 where
  | one (l : L)
  | agg (ls : List L)

def D0.ls : D0 → List L
  | .one l => [l]
  | .agg ls => ls

inductive D where
  | v (d : D0)
  | tup (ds : List D0)

def D0.ids (d : D0) : List Nat := d.ls.flatMap L.ids
def D.ids : D → List Nat
  | .v d => d.ids
  | .tup ds => ds.flatMap D0.ids

abbrev D.one (l : L) : D := .v (.one l)

/-- What an object of the call's own is. -/
inductive Ob where
  | gone
  | box (T : Nat) (ls : List L)
  | row (E : Nat) (t : Ty) (xs : List t.den)
  | fr (E : Nat) (t : Ty) (xs : List t.den)
  | fbx (T : Nat) (ls : List L)
  | clo (f : Nat) (ls : List L)

/-- Whose names stand in its cells. -/
def Ob.kids : Ob → List Nat
  | .box _ ls | .fbx _ ls | .clo _ ls => ls.flatMap L.ids
  | _ => []

/-- As it is read. -/
inductive Vw where
  | no
  | clo (f : Nat) (ls : List L)
  | box (T : Nat) (ls : List L)
  | row (E : Nat) (t : Ty) (xs : List t.den)

def Ob.vw : Ob → Vw
  | .gone => .no
  | .box T ls => .box T ls
  | .row E t xs => .row E t xs
  | .fr E t xs => .row E t xs
  | .fbx T ls => .box T ls
  | .clo f ls => .clo f ls

def Ob.freeze : Ob → Ob
  | .row E t xs => .fr E t xs
  | .box T ls => .fbx T ls
  | o => o

theorem Ob.freeze_vw (o : Ob) : o.freeze.vw = o.vw := by cases o <;> rfl

structure S where
  e : Nat → D
  H : Nat → Ob
  nx : Nat
  dt : List Nat

def upd {α : Type} (f : Nat → α) (i : Nat) (x : α) : Nat → α := fun j => bif Nat.beq j i then x else f j
theorem upd_same {α : Type} (f : Nat → α) (i : Nat) (x : α) : upd f i x i = x := by simp [upd]
theorem upd_ne {α : Type} (f : Nat → α) {i j : Nat} (x : α) (h : j ≠ i) : upd f i x j = f j := by
  have : Nat.beq j i = false := by
    cases e : Nat.beq j i
    · rfl
    · exact absurd (Nat.eq_of_beq_eq_true e) h
  simp [upd, this]

def S.put (s : S) (dst : Option Nat) (d : D) : S :=
  match dst with
  | some t => { s with e := upd s.e t d }
  | none => s

/-- The cells of a value of a type. -/
def inj : (t : Ty) → t.den → List L
  | .int k, n => [.int k n]
  | .bool, b => [.bool b]
  | .str, s => [.str s]
  | .sl E t, xs => [.row E t xs]
  | .nil, _ => []
  | .cons a b, x => inj a x.1 ++ inj b x.2

def injD (t : Ty) (x : t.den) : D0 :=
  match t, x with
  | .int k, n => .one (.int k n)
  | .bool, b => .one (.bool b)
  | .str, s => .one (.str s)
  | .sl E t, xs => .one (.row E t xs)
  | .nil, _ => .agg []
  | .cons a b, x => .agg (inj a x.1 ++ inj b x.2)

theorem injD_ls (t : Ty) (x : t.den) : (injD t x).ls = inj t x := by cases t <;> rfl

def castL {t' t : Ty} (h : t' = t) (xs : List t'.den) : List t.den := h ▸ xs

/-- A value of a type, out of cells; rows of the call's own that are read so are frozen from now on (their names are told). -/
def pj (vw : Nat → Vw) : (t : Ty) → List L → Option (t.den × List L × List Nat)
  | .int k, ls => match ls with
    | .int k' n :: r => if k' = k then some (n, r, []) else none
    | _ => none
  | .bool, ls => match ls with
    | .bool b :: r => some (b, r, [])
    | _ => none
  | .str, ls => match ls with
    | .str s :: r => some (s, r, [])
    | _ => none
  | .sl E t, ls => match ls with
    | .row E' t' xs :: r => if h : t' = t then (if E' = E then some (castL h xs, r, []) else none) else none
    | .nils :: r => some ([], r, [])
    | .own id :: r => match vw id with
      | .row E' t' xs => if h : t' = t then (if E' = E then some (castL h xs, r, [id]) else none) else none
      | _ => none
    | .cut id n :: r => match vw id with
      | .row E' t' xs => if h : t' = t then (if E' = E then some ((castL h xs).take n, r, [id]) else none) else none
      | _ => none
    | .vi id lo hi :: r => match vw id with
      | .row E' t' xs => if h : t' = t then (if E' = E then some (((castL h xs).take hi).drop lo, r, [id]) else none) else none
      | _ => none
    | _ => none
  | .nil, ls => some ((), ls, [])
  | .cons a b, ls => match pj vw a ls with
    | some (x, r, i) => match pj vw b r with
      | some (y, r', i') => some ((x, y), r', i ++ i')
      | none => none
    | none => none

/-- The whole of some cells, as a value of a type. -/
def pjAll (vw : Nat → Vw) (t : Ty) (ls : List L) : Option (t.den × List Nat) :=
  match pj vw t ls with
  | some (x, [], i) => some (x, i)
  | _ => none

/-- What the table of types says. -/
structure TI where
  desc : TypeDesc
  zero : Value
  size : Nat
  bytes : Nat

def tinfo (P : Program) (T : TypeId) : Option TI :=
  match P.underlying T, P.info? T with
  | some d, some i => match i.zero with
    | some z => some ⟨d, z, i.size, i.bytes⟩
    | none => none
  | _, _ => none

def isAggD : TypeDesc → Bool
  | .struct _ | .array _ _ => true
  | _ => false

def tyOf (P : Program) : Nat → TypeId → Option Ty
  | 0, _ => none
  | n + 1, T => match P.underlying T with
    | some .bool => some .bool
    | some (.int k) => some (.int k)
    | some .string => some .str
    | some (.slice e) => (tyOf P n e).map (.sl e)
    | some (.struct fs) => (fs.toList.mapM fun f => tyOf P n f.type).map (List.foldr .cons .nil)
    | some (.array m e) => (tyOf P n e).map fun t => (List.replicate m t).foldr .cons .nil
    | _ => none

/-- A cell's value, of a literal. -/
def litL : Value → Option L
  | .int k n => some (.int k n)
  | .bool b => some (.bool b)
  | .string s => some (.str s)
  | .slice none 0 0 => some .nils
  | .pointer none => some .nilp
  | _ => none

def litD (v : Value) : D :=
  match v with
  | .agg cs => match cs.toList.mapM litL with
    | some ls => .v (.agg ls)
    | none => .one .undef
  | v => match litL v with
    | some l => .one l
    | none => .one .undef

def evD (e : Nat → D) : Operand → D
  | .tmp t => e t
  | .const v => litD v
  | .global _ => .one .undef
  | .func f => .one (.fn f)

end Go.Proofs.Fr

/- The operations of a Go function, on plain values; the function as a whole. -/
namespace Go.Proofs.Fr
open Go

/-- How a value crosses a border (a call, a loop's head, ways that meet): as a value of a type, as a row of the call's own that is handed over (own) or lent (io), as a box that is lent with what its cells are, as a function with what it holds, as no pointer. -/
inductive K where
  | v (t : Ty)
  | own (E : Nat) (t : Ty)
  | io (E : Nat) (t : Ty)
  | bx (T : Nat) (c : K)
  | fn (f : Nat) (c : K)
  | np
  | nl
  | mb (T : Nat) (c : K)
  | nil
  | cons (a b : K)
  deriving DecidableEq

@[reducible] def K.den : K → Type
  | .v t => t.den
  | .own _ t => List t.den
  | .io _ t => List t.den
  | .bx _ c => c.den
  | .fn _ c => c.den
  | .np => Unit
  | .nl => Unit
  | .mb _ c => Option c.den
  | .nil => Unit
  | .cons a b => a.den × b.den

@[reducible] def dens : List K → Type
  | [] => Unit
  | k :: r => k.den × dens r

def K.sz : K → Nat
  | .v t => t.sz
  | .nil => 0
  | .cons a b => a.sz + b.sz
  | _ => 1

def K.isNil : K → Bool
  | .nil => true
  | _ => false

/-- How many objects it makes. -/
def K.nob : K → Nat
  | .own .. | .io .. => 1
  | .bx _ c => c.nob + 1
  | .fn _ c => bif c.isNil then 0 else c.nob + 1
  | .cons a b => a.nob + b.nob
  | _ => 0

def K.isAgg : K → Bool
  | .v t => t.isAgg
  | .cons .. => true
  | _ => false

def K.isV : K → Bool
  | .v _ => true
  | _ => false

def K.isOb : K → Bool
  | .own .. | .bx .. => true
  | _ => false

/-- What is lent, and so handed back. -/
def K.bks : K → List K
  | .io E t => [.own E t]
  | .bx T c => [.bx T c]
  | .fn _ c => c.bks
  | .cons a b => a.bks ++ b.bks
  | _ => []

def backs (ks : List K) : List K := ks.flatMap K.bks

structure Sp where
  ins : List K
  outs : List K
  sem : dens ins → Option (dens (outs ++ backs ins))

/-- What hands back the cells that it was given, so many. -/
def Sp.idN (sp : Sp) : Option Nat :=
  match sp.ins with
  | [.cons .nil (.bx n .nil)] => some n
  | _ => none

def Ty.hasSl : Ty → Bool
  | .sl .. => true
  | .cons a b => a.hasSl || b.hasSl
  | _ => false

def K.hasSl : K → Bool
  | .v t => t.hasSl
  | .own .. | .io .. => true
  | .bx _ c => c.hasSl
  | .fn _ c => c.hasSl
  | .cons a b => a.hasSl || b.hasSl
  | _ => false

def D0.isAgg : D0 → Bool
  | .one _ => false
  | .agg _ => true

/-- Some cells as what they cross a border as; which rows are frozen so, which objects are handed over or lent. -/
def pkC (H : Nat → Ob) : (k : K) → List L → Option (k.den × List L × List Nat × List Nat)
  | .v t, ls => match pj (fun j => (H j).vw) t ls with
    | some (x, r, i) => some (x, r, i, [])
    | none => none
  | .own E t, ls => match ls with
    | .nils :: r => some ([], r, [], [])
    | .own id :: r => match H id with
      | .row E' t' xs => if h : t' = t then (if E' = E then some (castL h xs, r, [], [id]) else none) else none
      | _ => none
    | .cut id n :: r => match H id with
      | .row E' t' xs => if h : t' = t then (if E' = E then some ((castL h xs).take n, r, [], [id]) else none) else none
      | _ => none
    | .vi id lo hi :: r => match H id with
      | .row E' t' xs => if h : t' = t then (if E' = E then some (((castL h xs).take hi).drop lo, r, [], [id]) else none) else none
      | _ => none
    | _ => none
  | .io E t, ls => match ls with
    | .own id :: r => match H id with
      | .row E' t' xs => if h : t' = t then (if E' = E then some (castL h xs, r, [], [id]) else none) else none
      | _ => none
    | _ => none
  | .bx T c, ls => match ls with
    | .ptr id 0 :: r => match H id with
      | .box T' cs => if T' = T then (match pkC H c cs with
        | some (x, [], fro, lent) => some (x, r, fro, id :: lent)
        | _ => none) else none
      | _ => none
    | _ => none
  | .fn f c, ls => match ls with
    | .fn f' :: r => if f' = f then (match pkC H c [] with
      | some (x, [], fro, lent) => some (x, r, fro, lent)
      | _ => none) else none
    | .cl id :: r => match H id with
      | .clo f' cs => if f' = f then (match pkC H c cs with
        | some (x, [], fro, lent) => some (x, r, fro, lent)
        | _ => none) else none
      | _ => none
    | _ => none
  | .np, ls => match ls with
    | .nilp :: r => some ((), r, [], [])
    | _ => none
  | .nl, ls => match ls with
    | .nils :: r => some ((), r, [], [])
    | _ => none
  | .mb T c, ls => match ls with
    | .nilp :: r => some (none, r, [], [])
    | .ptr id 0 :: r => match H id with
      | .box T' cs => if T' = T then (match pkC H c cs with
        | some (x, [], fro, lent) => some (some x, r, fro, id :: lent)
        | _ => none) else none
      | _ => none
    | _ => none
  | .nil, ls => some ((), ls, [], [])
  | .cons a b, ls => match pkC H a ls with
    | some (x, r, fro, lent) => match pkC H b r with
      | some (y, r', fro', lent') => some ((x, y), r', fro ++ fro', lent ++ lent')
      | none => none
    | none => none

def pkA (H : Nat → Ob) : (ks : List K) → List D → Option (dens ks × List Nat × List Nat)
  | [], ds => match ds with
    | [] => some ((), [], [])
    | _ => none
  | k :: r, ds => match ds with
    | .v d :: ds => if d.isAgg = k.isAgg then (match pkC H k d.ls with
      | some (x, [], fro, lent) => match pkA H r ds with
        | some (y, fro', lent') => some ((x, y), fro ++ fro', lent ++ lent')
        | none => none
      | _ => none) else none
    | _ => none

/-- Which objects are lent, as they are told in 'bks'. -/
def lentC (H : Nat → Ob) : (k : K) → List L → List Nat
  | .io .., ls => match ls with
    | .own id :: _ => [id]
    | _ => []
  | .bx .., ls => match ls with
    | .ptr id _ :: _ => [id]
    | _ => []
  | .fn _ c, ls => match ls with
    | .cl id :: _ => match H id with
      | .clo _ cs => lentC H c cs
      | _ => []
    | _ => []
  | .cons a b, ls => lentC H a ls ++ lentC H b (ls.drop a.sz)
  | _, _ => []

def lentA (H : Nat → Ob) : (ks : List K) → List D → List Nat
  | k :: r, .v d :: ds => lentC H k d.ls ++ lentA H r ds
  | _, _ => []

/-- Cells made anew, with the objects that they name (from n on). -/
def mkC : (k : K) → k.den → Nat → List L × List Ob
  | .v t, x, _ => (inj t x, [])
  | .own E t, x, n => ([.own n], [.row E t x])
  | .io E t, x, n => ([.own n], [.row E t x])
  | .bx T c, x, n => ([.ptr n 0], .box T (mkC c x (n + 1)).1 :: (mkC c x (n + 1)).2)
  | .fn f c, x, n => bif c.isNil then ([.fn f], []) else ([.cl n], .clo f (mkC c x (n + 1)).1 :: (mkC c x (n + 1)).2)
  | .np, _, _ => ([.nilp], [])
  | .nl, _, _ => ([.nils], [])
  | .mb .., _, _ => ([.undef], [])
  | .nil, _, _ => ([], [])
  | .cons a b, x, n => ((mkC a x.1 n).1 ++ (mkC b x.2 (n + a.nob)).1, (mkC a x.1 n).2 ++ (mkC b x.2 (n + a.nob)).2)

def headL : List L → L
  | l :: _ => l
  | [] => .undef

def mkI (k : K) (x : k.den) (n : Nat) : D0 × List Ob :=
  match k, x with
  | .v t, x => (injD t x, [])
  | .cons a b, x => (.agg (mkC (.cons a b) x n).1, (mkC (.cons a b) x n).2)
  | k, x => (.one (headL (mkC k x n).1), (mkC k x n).2)

def setObs (H : Nat → Ob) (id0 : Nat) : List Ob → (Nat → Ob)
  | [] => H
  | o :: r => setObs (upd H id0 o) (id0 + 1) r

/-- Where something is laid that comes back across a border: in a slot, or in an object that goes on being there. -/
inductive Tg where
  | slot (t : Nat)
  | obj (id : Nat)

abbrev PK := List (Tg × K)

@[reducible] def PK.den (pk : PK) : Type := dens (pk.map (·.2))

def fillS (e : Nat → D) (H : Nat → Ob) (nx : Nat) : List Tg → (ks : List K) → dens ks → (Nat → D) × (Nat → Ob)
  | .slot t :: tgs, k :: r, x => fillS (upd e t (.v (mkI k x.1 nx).1)) (setObs H nx (mkI k x.1 nx).2) (nx + k.nob) tgs r x.2
  | .obj id :: tgs, .own E t :: r, x => fillS e (upd H id (.row E t x.1)) nx tgs r x.2
  | .obj id :: tgs, .bx T c :: r, x => fillS e (upd (setObs H nx (mkC c x.1 nx).2) id (.box T (mkC c x.1 nx).1)) (nx + c.nob) tgs r x.2
  | .obj _ :: tgs, _ :: r, x => fillS e H nx tgs r x.2
  | _, _, _ => (e, H)

/-- How many names it takes. -/
def nobP : List Tg → List K → Nat
  | .slot _ :: tgs, k :: r => k.nob + nobP tgs r
  | .obj _ :: tgs, .bx _ c :: r => c.nob + nobP tgs r
  | .obj _ :: tgs, _ :: r => nobP tgs r
  | _, _ => 0

/-- Arguments that are plain values alone. -/
def pkArgs (vw : Nat → Vw) : (ks : List K) → List D → Option (dens ks × List Nat)
  | [], ds => match ds with
    | [] => some ((), [])
    | _ => none
  | .v t :: r, ds => match ds with
    | .v d :: ds => if d.isAgg = t.isAgg then (match pjAll vw t d.ls with
      | some (x, i) => match pkArgs vw r ds with
        | some (y, i') => some ((x, y), i ++ i')
        | none => none
      | none => none) else none
    | _ => none
  | _ :: _, _ => none

def nobA : List K → Nat
  | [] => 0
  | k :: r => k.nob + nobA r

/-- May what comes back name rows that were read. -/
def K.ret : K → Bool
  | .v t => t.hasSl
  | .own _ t => t.hasSl
  | .cons a b => a.ret || b.ret
  | .nil => false
  | _ => true

def K.isMb : K → Bool
  | .mb .. => true
  | _ => false

def retains (ks : List K) : Bool := ks.any K.ret

/-- Results of a call: values of types, and rows and boxes that are handed over. -/
def mkA : (ks : List K) → dens ks → Nat → List D0 × List Ob
  | [], _, _ => ([], [])
  | k :: r, y, id => ((mkI k y.1 id).1 :: (mkA r y.2 (id + k.nob)).1, (mkI k y.1 id).2 ++ (mkA r y.2 (id + k.nob)).2)

def resD : List D0 → D
  | [d] => .v d
  | ds => .tup ds

def maxBytes : Nat := 140737488355328

/-- An element of a row. -/
def rdE (t : Ty) (xs : List t.den) (i : Nat) : t.den := xs.getD i t.zero

/-- A byte of a string. -/
def btS (s : ByteArray) (i : Nat) : Int := ((s.data.toList.getD i 0).toNat : Int)

def bytesS (s : ByteArray) : List Int := s.data.toList.map fun b => (b.toNat : Int)

def ibits (op : BinOp) (k : IntKind) (x y : Int) : Int :=
  let a := BitVec.ofInt k.bits x
  let b := BitVec.ofInt k.bits y
  match op with
  | .and => k.wrap (a &&& b).toNat
  | .or => k.wrap (a ||| b).toNat
  | .xor => k.wrap (a ^^^ b).toNat
  | _ => k.wrap (a &&& ~~~b).toNat

/-- A row that is read: of which type its elements are. -/
def rowOf (vw : Nat → Vw) : L → Option (Sigma fun t : Ty => List t.den)
  | .row _ t xs => some ⟨t, xs⟩
  | .own id => match vw id with
    | .row _ t xs => some ⟨t, xs⟩
    | _ => none
  | _ => none

def lenOf (vw : Nat → Vw) : L → Option Int
  | .row _ _ xs => some (xs.length : Int)
  | .nils => some 0
  | .own id => match vw id with
    | .row _ _ xs => some (xs.length : Int)
    | _ => none
  | .cut id n => match vw id with
    | .row .. => some (n : Int)
    | _ => none
  | .vi id lo hi => match vw id with
    | .row .. => some ((hi - lo : Nat) : Int)
    | _ => none
  | .str s => some (s.size : Int)
  | _ => none

def lenTy (P : Program) (tys : Array TypeId) (l : L) : Bool :=
  match tys[0]? with
  | none => false
  | some t => match P.underlying t, l with
    | some .string, .str _ => true
    | some (.slice _), .row .. => true
    | some (.slice _), .own _ => true
    | some (.slice _), .cut .. => true
    | some (.slice _), .vi .. => true
    | some (.slice _), .nils => true
    | _, _ => false

/-- The numbers of a row of a kind. -/
def numsOf (k : IntKind) (vw : Nat → Vw) : L → Option (List Int)
  | .row _ t xs => if h : t = .int k then some (castL h xs) else none
  | .nils => some []
  | .own id => match vw id with
    | .row _ t xs => if h : t = .int k then some (castL h xs) else none
    | _ => none
  | .cut id n => match vw id with
    | .row _ t xs => if h : t = .int k then some ((castL h xs).take n) else none
    | _ => none
  | .vi id lo hi => match vw id with
    | .row _ t xs => if h : t = .int k then some (((castL h xs).take hi).drop lo) else none
    | _ => none
  | _ => none

/-- The cells that an address names. -/
def cellsAt (vw : Nat → Vw) : L → Option (List L × Nat)
  | .ptr id off => match vw id with
    | .box _ ls => some (ls, off)
    | _ => none
  | .elo id i off => match vw id with
    | .row _ t xs => some (inj t (rdE t xs i), off)
    | _ => none
  | .els _ t xs i off => some (inj t (rdE t xs i), off)
  | _ => none

def mkD (agg : Bool) (ls : List L) : Option D :=
  if agg then some (.v (.agg ls)) else match ls with
    | [l] => some (.one l)
    | _ => none

/-- Some of the cells, all there. -/
def cut (ls : List L) (off n : Nat) : Option (List L) :=
  let r := (ls.drop off).take n
  if r.length = n then some r else none

/-- What may be stored into a cell. -/
def L.solid : L → Bool
  | .undef | .skip | .ub => false
  | _ => true

def putAt (ls : List L) (off : Nat) (news : List L) : List L := news.zipIdx.foldl (fun cs c => cs.set (off + c.2) c.1) ls

def fillL (place : Nat → Option (Nat × Nat)) (cells : List L) : List (Nat × D0) → Option (List L)
  | [] => some cells
  | (i, v) :: rest =>
    match place i with
    | none => none
    | some (off, size) =>
      if v.ls.length ≠ size || off + v.ls.length > cells.length || !(v.ls.all L.solid) then none
      else fillL place (putAt cells off v.ls) rest

def d0s : List D → Option (List D0)
  | [] => some []
  | .v d :: r => match d0s r with
    | some ds => some (d :: ds)
    | none => none
  | _ :: _ => none

/-- Values of one cell each. -/
def d1s : List D0 → Option (List L)
  | [] => some []
  | .one l :: r => if l.solid = true then (match d1s r with
    | some ls => some (l :: ls)
    | none => none) else none
  | _ :: _ => none

def lits : List Value → Option (List L)
  | [] => some []
  | v :: r => match litL v with
    | some l => match lits r with
      | some ls => some (l :: ls)
      | none => none
    | none => none

def pjN (vw : Nat → Vw) (t : Ty) : Nat → List L → Option (List t.den × List L × List Nat)
  | 0, ls => some ([], ls, [])
  | n + 1, ls => match pj vw t ls with
    | some (x, r, i) => match pjN vw t n r with
      | some (xs, r', i') => some (x :: xs, r', i ++ i')
      | none => none
    | none => none

/-- The zeros of a row. -/
def zerosL (n : Nat) (zl : List L) : List L := (List.range n).map fun i => zl.getD (i % zl.length) .undef

/-- A struct's, or an array's, cells out of its parts. -/
def builtL (P : Program) (T : TypeId) (parts : List (Nat × D0)) : Option (List L) :=
  match P.info? T, P.underlying T with
  | some it, some (.array _ e) =>
    match it.zero, P.info? e with
    | some z, some ie => match lits z.cells.toList with
      | some zl => fillL (fun i => some (i * ie.size, ie.size)) zl parts
      | none => none
    | _, _ => none
  | some it, some (.struct fields) =>
    match it.zero, fields.toList.mapM (fun f => (P.info? f.type).map fun i => (f.offset, i.size)) with
    | some z, some places => match lits z.cells.toList with
      | some zl => fillL (places.toArray[·]?) zl parts
      | none => none
    | _, _ => none
  | _, _ => none

variable {R : Type}

/-- Two values, one of them by a test. -/
def pickK (x : Bool) (a b : D) (k : D → Option R) : Option R :=
  match x with
  | true => k a
  | false => k b

def pickD (x : Bool) (a b : D) (k : D → Option R) : Option R :=
  match a, b with
  | .v (.one (.int k1 m)), .v (.one (.int k2 n)) => if k1 = k2 then k (.one (.int k1 (if x = true then m else n))) else none
  | .v (.one (.bool m)), .v (.one (.bool n)) => k (.one (.bool (if x = true then m else n)))
  | .v (.one (.str m)), .v (.one (.str n)) => k (.one (.str (if x = true then m else n)))
  | a, b => if x = true then k a else k b

def intBin (op : BinOp) (kk : IntKind) (a b : Int) (k : L → Option R) : Option R :=
  match op with
  | .add => k (.int kk (kk.wrap (a + b)))
  | .sub => k (.int kk (kk.wrap (a - b)))
  | .mul => k (.int kk (kk.wrap (a * b)))
  | .quo => if b = 0 then none else k (.int kk (kk.wrap (a.tdiv b)))
  | .rem => if b = 0 then none else k (.int kk (a.tmod b))
  | .and | .or | .xor | .andNot => k (.int kk (ibits op kk a b))
  | .eql => k (.bool (decide (a = b)))
  | .neq => k (.bool (!decide (a = b)))
  | .lss => k (.bool (decide (a < b)))
  | .leq => k (.bool (decide (a ≤ b)))
  | .gtr => k (.bool (decide (a > b)))
  | .geq => k (.bool (decide (a ≥ b)))
  | _ => none

def strBin (op : BinOp) (a b : ByteArray) (k : L → Option R) : Option R :=
  match op with
  | .add => if a.size + b.size ≤ maxBytes then k (.str (a ++ b)) else none
  | .eql => k (.bool (decide (a = b)))
  | .neq => k (.bool (!decide (a = b)))
  | .lss => k (.bool (Op.bytesLess a.toList b.toList))
  | _ => none

/-- Are structs alike: by their fields. -/
def eqL : List L → List L → Option Bool
  | [], [] => some true
  | .int k a :: r, .int k' b :: q => if k = k' then (eqL r q).map (decide (a = b) && ·) else none
  | .bool a :: r, .bool b :: q => (eqL r q).map ((a == b) && ·)
  | .str a :: r, .str b :: q => (eqL r q).map (decide (a = b) && ·)
  | _, _ => none

def eqFs (P : Program) (eqf : TypeId → List L → List L → Option Bool) : List Field → List L → List L → Option Bool
  | [], _, _ => some true
  | f :: fs, xs, ys => if f.name = "_" then none else match tinfo P f.type with
    | none => none
    | some ti => match cut xs f.offset (if isAggD ti.desc then ti.size else 1), cut ys f.offset (if isAggD ti.desc then ti.size else 1) with
      | some a, some b => match eqf f.type a b, eqFs P eqf fs xs ys with
        | some p, some q => some (p && q)
        | _, _ => none
      | _, _ => none

def eqIs (P : Program) (eqf : TypeId → List L → List L → Option Bool) (e : TypeId) : List Nat → List L → List L → Option Bool
  | [], _, _ => some true
  | i :: is, xs, ys => match tinfo P e with
    | none => none
    | some ti => match cut xs (i * ti.size) (if isAggD ti.desc then ti.size else 1), cut ys (i * ti.size) (if isAggD ti.desc then ti.size else 1) with
      | some a, some b => match eqf e a b, eqIs P eqf e is xs ys with
        | some p, some q => some (p && q)
        | _, _ => none
      | _, _ => none

/-- Are two values of this type equal? -/
def eqT (P : Program) : Nat → TypeId → List L → List L → Option Bool
  | 0, _, _, _ => none
  | d + 1, T, xs, ys => match P.underlying T, xs, ys with
    | some (.int _), [.int k a], [.int k' b] => if k = k' then some (decide (a = b)) else none
    | some .bool, [.bool a], [.bool b] => some (a == b)
    | some .string, [.str a], [.str b] => some (decide (a = b))
    | some (.struct fs), xs, ys => if P.stoodInHeld T = false then eqFs P (eqT P d) fs.toList xs ys else none
    | some (.array n e), xs, ys => match tinfo P e with
      | some _ => eqIs P (eqT P d) e (List.range n) xs ys
      | none => none
    | _, _, _ => none

def binK (P : Program) (op : BinOp) (xT : TypeId) (x y : D) (k : L → Option R) : Option R :=
  match x, y with
  | .v (.one (.int kx a)), .v (.one (.int ky b)) =>
    match op with
    | .shl => if b < 0 then none else k (.int kx (kx.wrap (a * 2 ^ (min b.toNat kx.bits))))
    | .shr => if b < 0 then none else k (.int kx (a.fdiv (2 ^ (min b.toNat kx.bits))))
    | _ => if kx = ky then intBin op kx a b k else none
  | .v (.one (.str a)), .v (.one (.str b)) => strBin op a b k
  | .v (.one (.bool a)), .v (.one (.bool b)) =>
    match P.underlying xT, op with
    | some .bool, .eql => k (.bool (a == b))
    | some .bool, .neq => k (.bool (!(a == b)))
    | _, _ => none
  | .v (.one (.row _ _ xs)), .v (.one .nils) =>
    match P.underlying xT, op with
    | some (.slice _), .eql => if xs.length = 0 then k .ub else k (.bool false)
    | some (.slice _), .neq => if xs.length = 0 then k .ub else k (.bool true)
    | _, _ => none
  | .v (.one (.ptr ..)), .v (.one .nilp) =>
    match P.underlying xT, op with
    | some (.pointer _), .eql => k (.bool false)
    | some (.pointer _), .neq => k (.bool true)
    | _, _ => none
  | .v (.one .nilp), .v (.one .nilp) =>
    match P.underlying xT, op with
    | some (.pointer _), .eql => k (.bool true)
    | some (.pointer _), .neq => k (.bool false)
    | _, _ => none
  | .v (.agg xs), .v (.agg ys) =>
    match P.underlying xT with
    | some (.struct _) => if P.eqGuardType P.depth xT = false then (match op, eqT P 10 xT xs ys with
      | .eql, some b => k (.bool b)
      | .neq, some b => k (.bool (!b))
      | _, _ => none) else none
    | some (.array _ _) => if P.eqGuardType P.depth xT = false then (match op, eqT P 10 xT xs ys with
      | .eql, some b => k (.bool b)
      | .neq, some b => k (.bool (!b))
      | _, _ => none) else none
    | _ => none
  | _, _ => none

def unK (op : UnOp) (x : D) (k : L → Option R) : Option R :=
  match op, x with
  | .neg, .v (.one (.int kk n)) => k (.int kk (kk.wrap (0 - n)))
  | .not, .v (.one (.bool b)) => k (.bool (!b))
  | .xor, .v (.one (.int kk n)) => k (.int kk (ibits .xor kk (if kk.signed then -1 else kk.max) n))
  | _, _ => none

def convK (P : Program) (src dst : TypeId) (vw : Nat → Vw) (x : D) (k : L → Option R) : Option R :=
  match P.underlying src, P.underlying dst, x with
  | some _, some (.int kk), .v (.one (.int _ n)) => k (.int kk (kk.wrap n))
  | some _, some .string, .v (.one (.str s)) => k (.str s)
  | some _, some (.slice e), .v (.one (.str s)) => match P.underlying e with
    | some (.int .u8) => if s.size ≤ maxBytes then k (.row e (.int .u8) (bytesS s)) else none
    | _ => none
  | some (.slice e), some .string, .v (.one l) => match P.underlying e with
    | some (.int .u8) => match numsOf .u8 vw l with
      | some xs => k (.str (strOfNums xs))
      | none => none
    | _ => none
  | _, _, _ => none

def addOff (l : L) (n : Nat) : Option L :=
  match l with
  | .ptr id off => some (.ptr id (off + n))
  | .elo id i off => some (.elo id i (off + n))
  | .els E t xs i off => some (.els E t xs i (off + n))
  | _ => none

def bndOf : D → Option Int
  | .v (.one (.int _ n)) => some n
  | _ => none

/-- The bounds of a cut. -/
def lhOf (lo hi : Option Operand) (bs : List D) : Option (Int × Option Int) :=
  match lo, hi, bs with
  | none, none, [] => some (0, none)
  | some _, none, [b] => match bndOf b with
    | some n => some (n, none)
    | none => none
  | none, some _, [b] => match bndOf b with
    | some n => some (0, some n)
    | none => none
  | some _, some _, [a, b] => match bndOf a, bndOf b with
    | some m, some n => some (m, some n)
    | _, _ => none
  | _, _, _ => none

/-- The bounds of a cut of three. -/
def lhmOf (lo hi : Option Operand) (bs : List D) : Option (Int × Int × Int) :=
  match lo, hi, bs with
  | none, some _, [a, b] => match bndOf a, bndOf b with
    | some h, some m => some (0, h, m)
    | _, _ => none
  | some _, some _, [a, b, c] => match bndOf a, bndOf b, bndOf c with
    | some l, some h, some m => some (l, h, m)
    | _, _, _ => none
  | _, _, _ => none

/-- A cut of three bounds: of a shared row; of another one it is but looked at whether it may be. -/
def cut3 (P : Program) (e : TypeId) (x : L) (l h : Int) (k : L → Option R) : Option R :=
  match x with
  | .row E t xs => if (tinfo P e).map (·.size) = some t.sz then k (.row E t ((xs.take h.toNat).drop l.toNat)) else none
  | _ => k .undef

/-- An address whose object is there. -/
def liveA (vw : Nat → Vw) : L → Bool
  | .ptr id _ => match vw id with
    | .box .. => true
    | _ => false
  | .elo id _ _ => match vw id with
    | .row .. => true
    | _ => false
  | .els .. => true
  | _ => false

/-- The numbers, or the truths, of some cells. -/
def intsOf (k : IntKind) : List L → Option (List Int)
  | [] => some []
  | .int k' n :: r => if k' = k then (match intsOf k r with
    | some ns => some (n :: ns)
    | none => none) else none
  | _ :: _ => none
def boolsOf : List L → Option (List Bool)
  | [] => some []
  | .bool b :: r => match boolsOf r with
    | some ns => some (b :: ns)
    | none => none
  | _ :: _ => none
/-- One of some cells, by a number. -/
def selL (ls : List L) (i : Nat) : Option L :=
  match ls with
  | .int k _ :: _ => match intsOf k ls with
    | some ns => some (.int k (ns.getD i 0))
    | none => none
  | .bool _ :: _ => match boolsOf ls with
    | some bs => some (.bool (bs.getD i false))
    | none => none
  | _ => none

/-- So many elements of a row, as cells. -/
def runL (t : Ty) (xs : List t.den) (i n : Nat) : List L := (List.range n).flatMap fun j => inj t (rdE t xs (i + j))

/-- One way for each number below a bound. -/
def splitN (m i : Nat) (k : Nat → Option R) : Option R := match m with
  | 0 => none
  | m + 1 => if i = m then k m else splitN m i k
theorem splitN_eq {m i : Nat} (k : Nat → Option R) (h : i < m) : splitN m i k = k i := by
  induction m with
  | zero => omega
  | succ m ih =>
    unfold splitN
    by_cases e : i = m
    · rw [if_pos e, e]
    · rw [if_neg e, ih (by omega)]

/-- An operation that writes nothing that was there: what it yields, what it makes, which rows it freezes. -/
def valK (P : Program) (T : Nat → List Sp) (id0 : Nat) (vw : Nat → Vw) (op : Op) (ds : List D) (k : D → List Ob → List Nat → Option R) : Option R :=
  match op, ds with
  | .move _, [d] => k d [] []
  | .assign _, [d] => k d [] []
  | .pick .., [.v (.one (.bool x)), a, b] => pickD x a b fun d => k d [] []
  | .build T parts, ds => match d0s ds with
    | some ps => match builtL P T ((parts.toList.map (·.1)).zip ps) with
      | some ls => k (.v (.agg ls)) [] []
      | none => none
    | none => none
  | .buildSlice T len parts, ds => match P.underlying T, d0s ds with
    | some (.slice e), some ps => match tinfo P e, tyOf P 20 e with
      | some ti, some t => match lits ti.zero.cells.toList with
        | some zl => if len * ti.size ≤ 16777216 ∧ ti.size = t.sz ∧ 0 < t.sz then (match fillL (fun i => some (i * ti.size, ti.size)) (zerosL (len * ti.size) zl) ((parts.toList.map (·.1)).zip ps) with
            | some ls => match pjN vw t len ls with
              | some (xs, [], ids) => k (.one (.own id0)) [.row e t xs] ids
              | _ => none
            | none => none) else none
        | none => none
      | _, _ => none
    | _, _ => none
  | .box T _, [.v d] => match tinfo P T with
    | some ti => if d.isAgg = isAggD ti.desc ∧ d.ls.all L.solid = true then k (.one (.ptr id0 0)) [.box T d.ls] [] else none
    | none => none
  | .alloc T, [] => match tinfo P T with
    | some ti => match lits ti.zero.cells.toList with
      | some zl => k (.one (.ptr id0 0)) [.box T zl] []
      | none => none
    | none => none
  | .load T _, [.v (.one l)] => match tinfo P T, cellsAt vw l with
    | some ti, some (ls, off) => match cut ls off (if isAggD ti.desc then ti.size else 1) with
      | some r => match mkD (isAggD ti.desc) r with
        | some d => k d [] []
        | none => none
      | none => match l with
        | .els _ t xs i 0 => bif isAggD ti.desc && Nat.beq t.sz 1 then (if i + ti.size ≤ List.length (α := t.den) xs then k (.v (.agg (runL t xs i ti.size))) [] [] else none) else none
        | _ => none
    | _, _ => none
  | .nilCheck _, [.v (.one l)] => if liveA vw l = true then k (.one l) [] [] else match l with
    | .fn .. => k (.one l) [] []
    | .cl id => match vw id with
      | .clo .. => k (.one l) [] []
      | _ => none
    | _ => none
  | .binOp op xT _ _ _, [x, y] => binK P op xT x y fun l => k (.one l) [] []
  | .unOp op _ _, [x] => unK op x fun l => k (.one l) [] []
  | .convert src dst _, [x] => convK P src dst vw x fun l => k (.one l) [] []
  | .field T _ f, [.v (.agg ls)] => match P.underlying T with
    | some (.struct fs) => match fs[f]? with
      | some fd => match tinfo P fd.type with
        | some ti => match cut ls fd.offset (if isAggD ti.desc then ti.size else 1) with
          | some r => match mkD (isAggD ti.desc) r with
            | some d => k d [] []
            | none => none
          | none => none
        | none => none
      | none => none
    | _ => none
  | .extract _ i, [.tup es] => match es[i]? with
    | some d => k (.v d) [] []
    | none => none
  | .fieldAddr T _ f, [.v (.one l)] => match P.underlying T with
    | some (.struct fs) => match fs[f]? with
      | some fd => match tinfo P fd.type with
        | some ti => if ti.size = 0 then none else if liveA vw l = true then match addOff l fd.offset with
          | some l => k (.one l) [] []
          | none => none
          else none
        | none => none
      | none => none
    | _ => none
  | .indexAddr T _ _, [.v (.one l), .v (.one (.int _ n))] => match P.underlying T, l with
    | some (.slice e), .row E t xs => if (tinfo P e).map (·.size) = some t.sz then (if 0 ≤ n ∧ n < (xs.length : Int) then k (.one (.els E t xs n.toNat 0)) [] [] else none) else none
    | some (.slice e), .own id => match vw id with
      | .row _ t xs => if (tinfo P e).map (·.size) = some t.sz then (if 0 ≤ n ∧ n < (xs.length : Int) then k (.one (.elo id n.toNat 0)) [] [] else none) else none
      | _ => none
    | some (.slice e), .cut id m => match vw id with
      | .row _ t _ => if (tinfo P e).map (·.size) = some t.sz then (if 0 ≤ n ∧ n < (m : Int) then k (.one (.elo id n.toNat 0)) [] [] else none) else none
      | _ => none
    | some (.slice e), .vi id lo hi => match vw id with
      | .row _ t _ => if (tinfo P e).map (·.size) = some t.sz then (if 0 ≤ n ∧ n < ((hi - lo : Nat) : Int) then k (.one (.elo id (lo + n.toNat) 0)) [] [] else none) else none
      | _ => none
    | some (.array m e), l => match tinfo P e with
      | some ti => if ti.size = 0 ∨ m ≤ 1 then none else if liveA vw l = true then (if 0 ≤ n ∧ n < (m : Int) then splitN m n.toNat (fun j => match addOff l (j * ti.size) with
        | some l => k (.one l) [] []
        | none => none) else none) else none
      | none => none
    | _, _ => none
  | .index T _ _, [.v (.agg ls), .v (.one (.int _ n))] => match P.underlying T with
    | some (.array m e) => match tinfo P e with
      | some ti => if ti.size = 1 ∧ isAggD ti.desc = false ∧ 0 ≤ n ∧ n < (m : Int) ∧ ls.length = m then (match selL ls n.toNat with
        | some l => k (.one l) [] []
        | none => none) else none
      | none => none
    | _ => none
  | .index T _ _, [.v (.one (.str s)), .v (.one (.int _ n))] => match P.underlying T with
    | some .string => if 0 ≤ n ∧ n < (s.size : Int) then k (.one (.int .u8 (btS s n.toNat))) [] [] else none
    | _ => none
  | .makeSlice T _ _, [.v (.one (.int .i64 l)), .v (.one (.int .i64 c))] => match P.underlying T with
    | some (.slice e) => match tinfo P e, tyOf P 20 e with
      | some ti, some t => match lits ti.zero.cells.toList with
        | some zl => match pjAll (fun _ => .no) t zl with
          | some (z, []) => if ti.size = t.sz ∧ 0 < t.sz ∧ 0 < ti.bytes then (if 0 ≤ l ∧ l ≤ c ∧ c ≤ ((maxBytes / ti.bytes : Nat) : Int) then k (.one (.own id0)) [.row e t (List.replicate l.toNat z)] [] else none) else none
          | _ => none
        | none => none
      | _, _ => none
    | _ => none
  | .slice T _ lo hi mx, .v (.one x) :: bs => match mx with
    | some _ => match lhmOf lo hi bs, P.underlying T, lenOf vw x with
      | some (l, h, m), some (.slice e), some n => if lenTy P #[T] x = true ∧ (tinfo P e).isSome = true then (if 0 ≤ l ∧ l ≤ h ∧ h ≤ m ∧ m ≤ n then cut3 P e x l h (fun y => k (.one y) [] []) else none) else none
      | _, _, _ => none
    | none =>
      match lhOf lo hi bs with
      | none => none
      | some (l, h?) => match P.underlying T, x with
        | some .string, .str s => let h := h?.getD (s.size : Int); if 0 ≤ l ∧ l ≤ h ∧ h ≤ (s.size : Int) then k (.one (.str (s.extract l.toNat h.toNat))) [] [] else none
        | some (.slice e), .row E t xs => let h := h?.getD (xs.length : Int); if (tinfo P e).map (·.size) = some t.sz then (if 0 ≤ l ∧ l ≤ h ∧ h ≤ (xs.length : Int) then k (.one (.row E t ((xs.take h.toNat).drop l.toNat))) [] [] else none) else none
        | some (.slice e), .own id => match vw id with
          | .row E t xs => let h := h?.getD (xs.length : Int); if (tinfo P e).map (·.size) = some t.sz then (bif lo.isNone then (if 0 ≤ h ∧ h ≤ (xs.length : Int) then k (.one (.cut id h.toNat)) [] [] else none)
            else if 0 ≤ l ∧ l ≤ h ∧ h ≤ (xs.length : Int) then k (.one (.vi id l.toNat h.toNat)) [] [] else none) else none
          | _ => none
        | some (.slice e), .cut id m => match vw id with
          | .row E t xs => let h := h?.getD (m : Int); if (tinfo P e).map (·.size) = some t.sz then (bif lo.isNone then (if 0 ≤ h ∧ h ≤ (xs.length : Int) then k (.one (.cut id h.toNat)) [] [] else none)
            else if 0 ≤ l ∧ l ≤ h ∧ h ≤ (xs.length : Int) then k (.one (.vi id l.toNat h.toNat)) [] [] else none) else none
          | _ => none
        | some (.slice e), .vi id lo0 hi0 => match vw id with
          | .row E t xs => let h := h?.getD ((hi0 - lo0 : Nat) : Int); if (tinfo P e).map (·.size) = some t.sz then (if 0 ≤ l ∧ l ≤ h ∧ h ≤ ((hi0 - lo0 : Nat) : Int) then k (.one (.vi id (lo0 + l.toNat) (lo0 + h.toNat))) [] [] else none) else none
          | _ => none
        | some (.array n e), .ptr id off => match vw id, tinfo P e, tyOf P 20 e with
          | .box _ ls, some ti, some t => let h := h?.getD (n : Int); if ti.size = t.sz ∧ 0 < t.sz then (if 0 ≤ l ∧ l ≤ h ∧ h ≤ (n : Int) then (match cut ls off (n * t.sz) with
            | some r => match pjN vw t n r with
              | some (xs, [], ids) => k (.one (.row e t ((xs.take h.toNat).drop l.toNat))) [] (ids ++ [id])
              | _ => none
            | none => none) else none) else none
          | _, _, _ => none
        | some (.slice e), .nils => let h := h?.getD 0; if (tinfo P e).isSome = true then (if 0 ≤ l ∧ l ≤ h ∧ h ≤ 0 then k (.one .nils) [] [] else none) else none
        | _, _ => none
  | .makeFunc (.func f) first _, ds => bif first.isEmpty then (match d0s ds with
    | some [] => k (.one (.fn f)) [] []
    | some ps => match d1s ps with
      | some ls => k (.one (.cl id0)) [.clo f ls] []
      | none => none
    | none => none) else none
  | .call { callee := .builtin .len, args := _, argTypes := tys }, [.v (.one l)] => if lenTy P tys l = true then (match lenOf vw l with
    | some n => k (.one (.int .i64 n)) [] []
    | none => none) else none
  | .call { callee := .builtin .cap, args := _, argTypes := tys }, [.v (.one .nils)] => match tys[0]? with
    | some t => match P.underlying t with
      | some (.slice _) => k (.one (.int .i64 0)) [] []
      | _ => none
    | none => none
  | .call { callee := .value _, .. }, .v (.one (.fn g)) :: args => match T g with
    | [sp] => match sp.idN with
      | some n => (match args with
        | [.v (.agg ls)] => if ls.length = n ∧ ls.all L.solid = true then k (.v (.agg ls)) [] [] else none
        | _ => none)
      | none => match pkArgs vw sp.ins args with
      | some (x, ids) => bif Nat.ble (nobA (sp.outs ++ backs sp.ins)) 8 then (sp.sem x).bind fun y => let r := mkA (sp.outs ++ backs sp.ins) y id0; k (resD r.1) r.2 (bif retains sp.outs then ids else []) else none
      | none => none
    | _ => none
  | .call { callee := .builtin .max, args := _, argTypes := _ }, [.v (.one (.int ka a)), .v (.one (.int kb b))] => if ka = kb then k (.one (.int ka (if b > a then b else a))) [] [] else none
  | .call { callee := .builtin .min, args := _, argTypes := _ }, [.v (.one (.int ka a)), .v (.one (.int kb b))] => if ka = kb then k (.one (.int ka (if b < a then b else a))) [] [] else none
  | .sliceToArrayPointer A _, [.v (.one (.row E t xs))] => match P.underlying A with
    | some (.array n _) => bif Nat.blt 0 n then (if n ≤ List.length (α := t.den) xs then k (.one (.els E t xs 0 0)) [] [] else none) else none
    | _ => none
  | _, _ => none

def putTD (ls : List L) (off : Nat) (news : List L) : List L := ls.take off ++ news ++ ls.drop (off + news.length)

def notOwn (b : L) (id : Nat) : Bool :=
  match b with
  | .own id' => !(Nat.beq id' id)
  | .cut id' _ => !(Nat.beq id' id)
  | .vi id' _ _ => !(Nat.beq id' id)
  | _ => true

/-- The elements that are appended. -/
def srcOf (t : Ty) (hb : Nat → Ob) : L → Option (List t.den)
  | .row _ t' ys => if h : t' = t then some (castL h ys) else none
  | .nils => some []
  | .own id => match (hb id).vw with
    | .row _ t' ys => if h : t' = t then some (castL h ys) else none
    | _ => none
  | .cut id n => match (hb id).vw with
    | .row _ t' ys => if h : t' = t then some ((castL h ys).take n) else none
    | _ => none
  | .vi id lo hi => match (hb id).vw with
    | .row _ t' ys => if h : t' = t then some (((castL h ys).take hi).drop lo) else none
    | _ => none
  | _ => none

def frz (H : Nat → Ob) : List Nat → (Nat → Ob)
  | [] => H
  | i :: r => frz (upd H i (H i).freeze) r

def goneAll (H : Nat → Ob) : List Nat → (Nat → Ob)
  | [] => H
  | i :: r => goneAll (upd H i .gone) r

def nodupB : List Nat → Bool
  | [] => true
  | a :: r => !r.contains a && nodupB r

def lentOk (fro lent : List Nat) : Bool := nodupB lent && lent.all fun i => !fro.contains i

def tgSlots (n : Nat) : List Tg := (List.range n).map .slot

def d0Of : D → D0
  | .v d => d
  | _ => .one .undef

/-- A pointer that may be none: both ways. -/
def splitK {R : Type} : (ks : List K) → dens ks → ((ks : List K) → dens ks → Option R) → Option R
  | [], _, k => k [] ()
  | .mb T c :: r, y, k => match y.1 with
    | none => splitK r y.2 fun ks z => k (.np :: ks) ((), z)
    | some v => splitK r y.2 fun ks z => k (.bx T c :: ks) (v, z)
  | q :: r, y, k => splitK r y.2 fun ks z => k (q :: ks) (y.1, z)

def retTg (n : Nat) (lent : List Nat) : List Tg := tgSlots n ++ lent.map .obj

/-- A call of any kind: what is handed over is gone, what is lent comes back. -/
def callK (id0 : Nat) (hb : Nat → Ob) (ds : List D) (s : S) (k : S → D → Option R) : List Sp → Option R
  | [] => none
  | sp :: r => match pkA hb sp.ins ds with
    | none => callK id0 hb ds s k r
    | some (x, fro, lent) =>
      bif lentOk fro lent then
        (sp.sem x).bind fun y => splitK (sp.outs ++ backs sp.ins) y fun ks y =>
          let q := fillS (fun _ => .one .skip) (goneAll (frz s.H fro) lent) id0 (retTg sp.outs.length (lentA hb sp.ins ds)) ks y
          bif Nat.ble (nobP (retTg sp.outs.length (lentA hb sp.ins ds)) ks) 8 then k { s with H := q.2, dt := lent ++ fro ++ s.dt } (resD ((List.range sp.outs.length).map fun i => d0Of (q.1 i))) else none
      else none

/-- A row over which another one is laid, as far as it goes. -/
def copyL {α : Type} (xs ys : List α) : List α := ys.take xs.length ++ xs.drop ys.length

/-- A row with elements laid over some of its own. -/
def putAtL {α : Type} (xs : List α) (lo : Nat) (zs : List α) : List α := xs.take lo ++ zs ++ xs.drop (lo + zs.length)

/-- Which part of which row. -/
def zoneOf (hb : Nat → Ob) : L → Option (Nat × Nat × Nat)
  | .own id => match hb id with
    | .row _ _ xs => some (id, 0, xs.length)
    | _ => none
  | .cut id n => some (id, 0, n)
  | .vi id lo hi => some (id, lo, hi - lo)
  | _ => none

/-- A view of this very row. -/
def sameVi (b : L) (id : Nat) : Bool :=
  match b with
  | .vi id' _ _ => Nat.beq id' id
  | _ => false

/-- A row of zeros that is appended to none. -/
def zRow (P : Program) (T T' : TypeId) (a b : L) : Option Ob :=
  match a, b, P.underlying T, P.underlying T' with
  | .nils, .int _ n, some (.slice e), some (.int _) => match tinfo P e, tyOf P 20 e with
    | some ti, some t => match lits ti.zero.cells.toList with
      | some zl => match pjAll (fun _ => .no) t zl with
        | some (z, []) => if ti.size = t.sz ∧ 0 < t.sz ∧ 0 < ti.bytes then (if 0 < n ∧ n ≤ ((maxBytes / ti.bytes : Nat) : Int) then some (.row e t (List.replicate n.toNat z)) else none) else none
        | _ => none
      | none => none
    | _, _ => none
  | _, _, _, _ => none

/-- The same, the number not asked yet. -/
def zRowS (P : Program) (T T' : TypeId) (a b : L) : Option (Int × Nat × Ob) :=
  match a, b, P.underlying T, P.underlying T' with
  | .nils, .int _ n, some (.slice e), some (.int _) => match tinfo P e, tyOf P 20 e with
    | some ti, some t => match lits ti.zero.cells.toList with
      | some zl => match pjAll (fun _ => .no) t zl with
        | some (z, []) => if ti.size = t.sz ∧ 0 < t.sz ∧ 0 < ti.bytes then some (n, maxBytes / ti.bytes, .row e t (List.replicate n.toNat z)) else none
        | _ => none
      | none => none
    | _, _ => none
  | _, _, _, _ => none

theorem zRow_eq (P : Program) (T T' : TypeId) (a b : L) : zRow P T T' a b = (zRowS P T T' a b).bind fun z => if 0 < z.1 ∧ z.1 ≤ (z.2.1 : Int) then some z.2.2 else none := by
  unfold zRow zRowS
  split
  · split
    · split
      · split
        · split <;> rfl
        · rfl
      · rfl
    · rfl
  · rfl

theorem zRow_K {Q : Type} (P : Program) (T T' : TypeId) (a b : L) (k : Ob → Option Q) : (match zRowS P T T' a b with
    | some z => if 0 < z.1 ∧ z.1 ≤ (z.2.1 : Int) then k z.2.2 else none
    | none => none) = (match zRow P T T' a b with
    | some o => k o
    | none => none) := by
  rw [zRow_eq]
  cases zRowS P T T' a b with
  | none => rfl
  | some z =>
    simp only [Option.bind_some]
    split <;> rfl

/-- An operation that writes. (hb: what it may look at.) -/
def wrK (P : Program) (T : Nat → List Sp) (id0 : Nat) (hb : Nat → Ob) (op : Op) (ds : List D) (s : S) (k : S → D → Option R) : Option R :=
  match op, ds with
  | .store T _ _, [.v (.one a), .v d] => match tinfo P T with
    | none => none
    | some ti => if d.isAgg = isAggD ti.desc ∧ d.ls.length = ti.size ∧ d.ls.all L.solid = true then (match a with
      | .ptr id off => match hb id with
        | .box T0 ls => if off + d.ls.length ≤ ls.length then k { s with H := upd s.H id (.box T0 (putTD ls off d.ls)), dt := id :: s.dt } (.one .undef) else none
        | _ => none
      | .elo id i off => match hb id with
        | .row E t xs => match pjAll (fun j => (hb j).vw) t (putTD (inj t (rdE t xs i)) off d.ls) with
          | some (x, ids) => if off + d.ls.length ≤ t.sz ∧ ids.contains id = false then k { s with H := upd (frz s.H ids) id (.row E t (xs.set i x)), dt := id :: (ids ++ s.dt) } (.one .undef) else none
          | none => none
        | _ => none
      | _ => none) else none
  | .call { callee := .builtin .append, args := _, argTypes }, [.v (.one a), .v (.one b)] =>
    match argTypes.toList with
    | [T, T'] => if T = T' then (match P.underlying T with
      | some (.slice e) => match tinfo P e, tyOf P 20 e with
        | some ti, some t => if ti.size = t.sz ∧ 0 < t.sz ∧ 0 < ti.bytes ∧ ti.zero.cells.size = ti.size then (match srcOf t hb b with
          | none => none
          | some ys => match a with
            | .nils => if ys.length ≤ maxBytes / ti.bytes then k { s with H := upd s.H id0 (.row e t ys) } (.one (.own id0)) else none
            | .own id => match hb id with
              | .row E t0 xs => if h : t0 = t then (if E = e ∧ notOwn b id = true then (if xs.length + ys.length ≤ maxBytes / ti.bytes then
                  k { s with H := upd (upd s.H id .gone) id0 (.row e t (castL h xs ++ ys)), dt := id :: s.dt } (.one (.own id0)) else none) else none) else none
              | _ => none
            | .cut id n => match hb id with
              | .row E t0 xs => if h : t0 = t then (bif sameVi b id then (if E = e ∧ n + ys.length ≤ xs.length then
                  k { s with H := upd (upd s.H id .gone) id0 (.row e t (putAtL (castL h xs) n ys)), dt := id :: s.dt } (.one (.cut id0 (n + ys.length))) else none) else if E = e ∧ notOwn b id = true ∧ n ≤ xs.length then (if n + ys.length ≤ maxBytes / ti.bytes then
                  k { s with H := upd (upd s.H id .gone) id0 (.row e t ((castL h xs).take n ++ ys)), dt := id :: s.dt } (.one (.own id0)) else none) else none) else none
              | _ => none
            | .vi id lo hi => match hb id with
              | .row E t0 xs => if h : t0 = t then (if E = e ∧ notOwn b id = true ∧ lo ≤ hi ∧ hi ≤ xs.length then (if (hi - lo) + ys.length ≤ maxBytes / ti.bytes then
                  k { s with H := upd (upd s.H id .gone) id0 (.row e t (((castL h xs).take hi).drop lo ++ ys)), dt := id :: s.dt } (.one (.own id0)) else none) else none) else none
              | _ => none
            | _ => none) else none
        | _, _ => none
      | _ => none) else (match zRowS P T T' a b with
      | some z => if 0 < z.1 ∧ z.1 ≤ (z.2.1 : Int) then k { s with H := upd s.H id0 z.2.2 } (.one (.own id0)) else none
      | none => none)
    | _ => none
  | .call { callee := .builtin .copy, args := _, argTypes }, [.v (.one (.own id)), .v (.one b)] =>
    match argTypes.toList with
    | [T, _] => match P.underlying T with
      | some (.slice e) => match tinfo P e, hb id with
        | some ti, .row E t xs => if ti.size = t.sz ∧ 0 < t.sz ∧ notOwn b id = true then (match srcOf t hb b with
          | some ys => k { s with H := upd s.H id (.row E t (copyL xs ys)), dt := id :: s.dt } (.one (.int .i64 ((min xs.length ys.length : Nat) : Int)))
          | none => none) else none
        | _, _ => none
      | _ => none
    | _ => none
  | .call { callee := .builtin .copy, args := _, argTypes }, [.v (.one a), .v (.one b)] =>
    match argTypes.toList, zoneOf hb a with
    | [T, _], some (id, lo, n) => match P.underlying T with
      | some (.slice e) => match tinfo P e, hb id with
        | some ti, .row E t xs => if ti.size = t.sz ∧ 0 < t.sz then (match srcOf t hb b with
          | some ys => k { s with H := upd s.H id (.row E t (putAtL xs lo (ys.take n))), dt := id :: s.dt } (.one (.int .i64 ((min n ys.length : Nat) : Int)))
          | none => none) else none
        | _, _ => none
      | _ => none
    | _, _ => none
  | .call { callee := .builtin .clear, args := _, argTypes }, [.v (.one a)] =>
    match argTypes.toList, zoneOf hb a with
    | [T], some (id, lo, n) => match P.underlying T with
      | some (.slice e) => match tinfo P e, hb id with
        | some ti, .row E t xs => match lits ti.zero.cells.toList with
          | some zl => match pjAll (fun _ => .no) t zl with
            | some (z, []) => if ti.size = t.sz ∧ 0 < t.sz then k { s with H := upd s.H id (.row E t (putAtL xs lo (List.replicate n z))), dt := id :: s.dt } (.tup []) else none
            | _ => none
          | none => none
        | _, _ => none
      | _ => none
    | _, _ => none
  | .call { callee := .value _, .. }, .v (.one f) :: args => match f with
    | .fn g => callK id0 hb args s k (T g)
    | .cl id => match hb id with
      | .clo g ls => callK id0 hb (args ++ ls.map D.one) s k (T g)
      | _ => none
    | _ => none
  | _, _ => none

end Go.Proofs.Fr

/- Regions, the ways through a body, loops; the function as a whole. -/
namespace Go.Proofs.Fr
open Go

inductive Ex where
  | normal
  | exit (id : Nat)
  | ret
  | goto (l : Nat)

variable {R : Type}

def S.commit (s : S) (dst : Option Nat) (id0 : Nat) (d : D) (obs : List Ob) (ids : List Nat) : S :=
  { e := (s.put dst d).e, H := setObs (frz s.H ids) id0 obs, nx := s.nx, dt := ids ++ s.dt }

def isWr (T : Nat → List Sp) : Op → Bool
  | .store .. => true
  | .call { callee := .builtin .append, .. } => true
  | .call { callee := .builtin .copy, .. } => true
  | .call { callee := .builtin .clear, .. } => true
  | .call { callee := .value (.func g), .. } => match T g with
    | [sp] => !sp.idN.isSome && (!(sp.ins.all K.isV) || sp.outs.any K.isMb)
    | _ => true
  | .call { callee := .value _, .. } => true
  | _ => false

/-- Which objects an operation may look at; hid: no rows (where an append stands in no order to it). -/
structure Acc where
  see : Nat → Bool
  hid : Bool

instance : CoeFun Acc (fun _ => Nat → Bool) := ⟨Acc.see⟩

def Ob.vwb : Ob → Vw
  | .row .. => .no
  | .fr .. => .no
  | o => o.vw

def vwl (acc : Acc) (H : Nat → Ob) : Nat → Vw := fun id => bif acc id then (bif acc.hid then (H id).vwb else (H id).vw) else .no
def hbl (acc : Acc) (H : Nat → Ob) : Nat → Ob := fun id => bif acc id then H id else .gone

/-- Which rows and boxes a region that draws its order may freeze: those told ahead, and what it makes itself. -/
def fzOf (nx0 : Nat) (l : List Nat) (id : Nat) : Bool := Nat.ble nx0 id || l.contains id

/-- One operation. acc: which objects it may look at; dr: the region draws its order; fz: what it may freeze then (told in dt already). -/
def opK (P : Program) (T : Nat → List Sp) (id0 : Nat) (acc : Acc) (fz : Nat → Bool) (dr : Bool) (o : Oper) (s : S) (k : S → Option R) : Option R :=
  bif isWr T o.op then wrK P T id0 (hbl acc s.H) o.op (o.op.operands.toList.map (evD s.e)) s fun s' d => k (s'.put o.dst d)
  else valK P T id0 (vwl acc s.H) o.op (o.op.operands.toList.map (evD s.e)) fun d obs ids =>
    bif dr then (bif ids.all (fun i => fz i && (acc i && !acc.hid)) && Nat.ble obs.length 8 then k { s.commit o.dst id0 d obs ids with dt := s.dt } else none) else k (s.commit o.dst id0 d obs ids)

def dstOk (nt : Nat) : Option Nat → Bool
  | none => true
  | some t => Nat.blt t nt

/-- An operation that hangs on another one's answer. -/
def gdK (ops : Array Oper) (o : Oper) (s : S) (yes no : S → Option R) : Option R :=
  match o.guard with
  | none => yes s
  | some (j, want) => match (ops[j]?).bind (·.dst) with
    | none => none
    | some t => match s.e t with
      | .v (.one (.bool b)) => if b = true then (bif want then yes (s.put (some t) (.one (.bool true))) else no (s.put (some t) (.one (.bool true))))
          else (bif want then no (s.put (some t) (.one (.bool false))) else yes (s.put (some t) (.one (.bool false))))
      | .v (.one .skip) => no s
      | _ => none

/-- Which objects an operation may look at: those of before, and those that were made ahead of it by an edge. -/
def isApp : Op → Bool
  | .call { callee := .builtin .append, .. } => true
  | _ => false

def K.rowish : K → Bool
  | .v _ | .own .. | .nl => true
  | _ => false

/-- A call that writes to no more than rows that are handed over. -/
def isRowC (T : Nat → List Sp) : Op → Bool
  | .call { callee := .value (.func g), .. } => (T g).all fun sp => sp.ins.all K.rowish
  | _ => false

/-- What writes to rows alone. -/
def isRowW (T : Nat → List Sp) (op : Op) : Bool := isApp op || (isWr T op && isRowC T op)

/-- What writes to rows alone stands in no order to it. -/
def hidOf (T : Nat → List Sp) (ops : Array Oper) (bef : Array Nat) (i : Nat) : Bool :=
  (List.range ops.size).any fun j => (match ops[j]? with | some o => isRowW T o.op | none => false) && !((bef.getD i 0).testBit j) && !((bef.getD j 0).testBit i)

/-- An operation that looks at objects, but makes none. -/
def lookOnly : Op → Bool
  | .load .. | .nilCheck .. | .fieldAddr .. | .indexAddr .. => true
  | .call { callee := .builtin .len, .. } => true
  | _ => false

def isVal : Op → Bool
  | .call { callee := .value _, .. } => true
  | _ => false

/-- A call of a function that writes to what it is lent. -/
def wrVal (T : Nat → List Sp) (op : Op) : Bool := isWr T op && isVal op && !(isRowC T op)

/-- A call that writes stands in no order to it: it may look at nothing. -/
def blindOf (T : Nat → List Sp) (ops : Array Oper) (bef : Array Nat) (i : Nat) : Bool :=
  (match ops[i]? with | some o => lookOnly o.op | none => false) &&
  (List.range ops.size).any fun j => (match ops[j]? with | some o => wrVal T o.op | none => false) && !((bef.getD i 0).testBit j) && !((bef.getD j 0).testBit i)

def isSt : Op → Bool
  | .store .. => true
  | _ => false

/-- It looks, and a store stands in no order to it: it may not look at what such stores may write to. -/
def lkSt (ops : Array Oper) (bef : Array Nat) (i : Nat) : Bool :=
  (match ops[i]? with | some o => lookOnly o.op | none => false) &&
  (List.range ops.size).any fun j => (match ops[j]? with | some o => isSt o.op | none => false) && !((bef.getD i 0).testBit j) && !((bef.getD j 0).testBit i)

/-- It is a store, and what looks stands in no order to it: it writes to no more than what is told ahead. -/
def stLk (ops : Array Oper) (bef : Array Nat) (i : Nat) : Bool :=
  (match ops[i]? with | some o => isSt o.op | none => false) &&
  (List.range ops.size).any fun j => (match ops[j]? with | some o => lookOnly o.op | none => false) && !((bef.getD i 0).testBit j) && !((bef.getD j 0).testBit i)

def accOf (T : Nat → List Sp) (ops : Array Oper) (bef : Array Nat) (nx0 : Nat) (fz : Nat → Bool) (dr : Bool) (i : Nat) : Acc :=
  ⟨fun id => !(dr && blindOf T ops bef i) && !(dr && lkSt ops bef i && fz id) && !(dr && stLk ops bef i && !fz id) && bif dr then Nat.blt id nx0 || (bef.getD i 0).testBit ((id - nx0) / 8) else Nat.blt id (nx0 + 8 * i), dr && hidOf T ops bef i⟩

def regK (P : Program) (T : Nat → List Sp) (nt : Nat) (ops : Array Oper) (bef : Array Nat) (nx0 : Nat) (dr : Bool) (fz : Nat → Bool) : List Nat → S → (S → Option R) → Option R
  | [], s, k => k { s with nx := nx0 + 8 * ops.size }
  | i :: r, s, k => match ops[i]? with
    | none => none
    | some o => bif dstOk nt o.dst then
        gdK ops o s (fun s => opK P T (nx0 + 8 * i) (accOf T ops bef nx0 fz dr i) fz dr o s fun s' => regK P T nt ops bef nx0 dr fz r s' k)
          (fun s => regK P T nt ops bef nx0 dr fz r (s.put o.dst (.one .skip)) k)
      else none

/-- The slots that an operation looks at: its operands', and that of the operation whose answer it hangs on. -/
def opdTmps (ops : Array Oper) (o : Oper) : List Nat :=
  (o.op.operands.toList.filterMap fun
    | .tmp t => some t
    | _ => none) ++ (match o.guard with
    | some (j, _) => ((ops[j]?).bind (·.dst)).toList
    | none => [])

/-- It looks at no object and makes none. -/
def tmpOnly : Op → Bool
  | .move _ | .assign _ | .pick .. | .build .. | .binOp .. | .unOp .. | .field .. | .extract .. => true
  | _ => false

/-- Two operations that may stand in either order. -/
def commOps (T : Nat → List Sp) (ops : Array Oper) (a b : Oper) : Bool :=
  ((!(isWr T a.op) && !(isWr T b.op)) || tmpOnly a.op || tmpOnly b.op || (isRowW T a.op && !(isWr T b.op)) || (isRowW T b.op && !(isWr T a.op)) || (lookOnly a.op && wrVal T b.op) || (lookOnly b.op && wrVal T a.op) || (lookOnly a.op && isSt b.op) || (lookOnly b.op && isSt a.op)) &&
  (match a.dst with | some t => !(opdTmps ops b).contains t && b.dst != some t | none => true) &&
  (match b.dst with | some t => !(opdTmps ops a).contains t | none => true)

/-- What stands ahead by edges: told rightly. -/
def befOk (ops : Array Oper) (bef : Array Nat) : Bool :=
  (List.range ops.size).all fun j => match ops[j]? with
    | none => false
    | some o => (o.after.toList.all fun e => !(Region.binds .any e) || Nat.blt e.on j) &&
      (List.range ops.size).all fun i => !((bef.getD j 0).testBit i) || (Nat.blt i j && o.after.toList.any fun e => Region.binds .any e && (Nat.beq e.on i || (bef.getD e.on 0).testBit i))

/-- May the order be any that the edges allow. -/
def drawOk (T : Nat → List Sp) (mx : Bool) (ops : Array Oper) (bef : Array Nat) : Bool :=
  (mx || !(Region.departs ops)) && befOk ops bef &&
  (List.range ops.size).all fun j => (List.range j).all fun i =>
    (bef.getD j 0).testBit i || (match ops[i]?, ops[j]? with | some a, some b => commOps T ops a b | _, _ => false)

/-- What stands in a slot, or is an object, that crosses a border. -/
def tgD (s : S) (x : Tg × K) : D :=
  match x.1 with
  | .slot t => s.e t
  | .obj id => match x.2 with
    | .own .. => .one (.own id)
    | _ => .one (.ptr id 0)

def pack (s : S) (pk : PK) : Option (PK.den pk × List Nat × List Nat) := pkA s.H (pk.map (·.2)) (pk.map (tgD s))

/-- What some names lead to. -/
def reachI (H : Nat → Ob) : Nat → List Nat → List Nat
  | 0, _ => []
  | n + 1, ids => ids.flatMap fun i => i :: reachI H n (H i).kids

def handles (s : S) (pk : PK) : List Nat := pk.flatMap fun x => reachI s.H 4 (tgD s x).ids

def unpack (pk : PK) (wr : Nat → Bool) (s : S) (x : PK.den pk) : S :=
  let mv := handles s pk
  let f := fillS (fun i => bif wr i then .one .undef else s.e i) (goneAll s.H mv) s.nx (pk.map (·.1)) (pk.map (·.2)) x
  { e := f.1, H := f.2, nx := s.nx + nobP (pk.map (·.1)) (pk.map (·.2)), dt := mv ++ s.dt }

/-- What was written since is what crosses the border. -/
def chk (s s' : S) (pk : PK) (mv fro own : List Nat) : Bool :=
  ((s'.dt.take (s'.dt.length - s.dt.length)) ++ fro ++ own).all (fun id => Nat.ble s.nx id || mv.contains id) && lentOk fro own && pk.all fun x => match x.1 with
    | .obj id => Nat.blt id s.nx && x.2.isOb
    | .slot _ => true

def packK (pk : PK) (s s' : S) (k : PK.den pk → Option R) : Option R :=
  match pack s' pk with
  | some (x, fro, own) => bif chk s s' pk (handles s pk) fro own then k x else none
  | none => none

/-- Ways that meet again. -/
def jn {α : Type} (j : α → Option R) (m : (α → Option R) → Option R) : Option R := m j

def iterK {α : Type} : Nat → (α → (α → Option R) → Option R) → α → Option R
  | 0, _, _ => none
  | n + 1, b, x => b x (iterK n b)

/-- So many rounds a loop may take: held apart from its number, so that nobody counts them. -/
theorem rounds_is : ∃ n : Nat, n = 4611686018427387904 := ⟨_, rfl⟩
noncomputable def rounds : Nat := Classical.choose rounds_is
theorem rounds_eq : rounds = 4611686018427387904 := Classical.choose_spec rounds_is

/-- The slots that code writes. -/
def wrOps (l : List Oper) (i : Nat) : Bool := l.any fun o => match o.dst with | some t => Nat.beq t i | none => false

def inPk (pk : Option PK) (i : Nat) : Bool := match pk with
  | some pk => pk.any fun x => match x.1 with
    | .slot t => Nat.beq t i
    | .obj _ => false
  | none => false

def wrC (ann : Nat → Option PK) : Code → Nat → Nat → Bool
  | .region _ ops _, p, i => wrOps ops.toList i || inPk (ann p) i
  | .seq a b, p, i => wrC ann a (2 * p) i || wrC ann b (2 * p + 1) i
  | .cond _ a b, p, i => wrC ann a (2 * p) i || wrC ann b (2 * p + 1) i || inPk (ann p) i
  | .block _ b, p, i => wrC ann b (2 * p) i || inPk (ann p) i
  | .loop b, p, i => wrC ann b (2 * p) i || inPk (ann p) i
  | .scope b, p, i => wrC ann b (2 * p) i || wrC ann b (2 * p + 1) i || inPk (ann p) i
  | _, _, _ => false

def joinK (pk? : Option PK) (wr : Nat → Bool) (s : S) (k : Ex → S → Option R) (m : (Ex → S → Option R) → Option R) : Option R :=
  match pk? with
  | none => m k
  | some pk => jn (fun x => k .normal (unpack pk wr s x)) fun j => m fun ex s' => match ex with
    | .normal => packK pk s s' j
    | e => k e s'

/-- What both roads tell alike. -/
noncomputable def both (x y : Option R) : Option R := @ite _ (x = y) (Classical.propDecidable _) x none

theorem both_left {x y : Option R} {r : R} (h : both x y = some r) : x = some r := by
  unfold both at h
  split at h
  · exact h
  · cases h
theorem both_right {x y : Option R} {r : R} (h : both x y = some r) : y = some r := by
  unfold both at h
  split at h
  · rename_i e; rw [← e]; exact h
  · cases h
theorem both_same (x : Option R) : both x x = x := by
  unfold both
  split
  · rfl
  · rename_i h; exact absurd rfl h

/-- What a region is told to freeze. -/
def fzL : Option PK → List Nat
  | none => []
  | some pk => pk.filterMap fun x => match x.1 with
    | .obj id => some id
    | .slot _ => none

/-- The label of a scope. -/
def labelIn : Code → Option Nat
  | .seq a b => (labelIn a).or (labelIn b)
  | .label l => some l
  | _ => none

/-- A body; m: from a label on. -/
noncomputable def evC (P : Program) (T : Nat → List Sp) (nt : Nat) (ann : Nat → Option PK) : Option Nat → Code → Nat → S → (Ex → S → Option R) → Option R
  | some l, .seq a b, p, s, k => match findLabel a l with
    | some _ => evC P T nt ann (some l) a (2 * p) s fun ex s' => match ex with
      | .normal => evC P T nt ann none b (2 * p + 1) s' k
      | e => k e s'
    | none => evC P T nt ann (some l) b (2 * p + 1) s k
  | some l, .label l', _, s, k => if l' = l then k .normal s else none
  | some _, _, _, _, _ => none
  | none, .skip, _, s, k => k .normal s
  | none, .label _, _, s, k => k .normal s
  | none, .region id ops dr, p, s, k =>
    joinK (ann p) (wrC ann (.region id ops dr) p) s k fun k =>
      bif !dr || drawOk T (P.follows .mixedOrders) ops (Region.before ops) then regK P T nt ops (bif dr then Region.before ops else #[]) s.nx dr (fzOf s.nx (fzL (ann (2 * p)))) (List.range ops.size) { s with dt := fzL (ann (2 * p)) ++ s.dt } (k .normal) else none
  | none, .seq a b, p, s, k => evC P T nt ann none a (2 * p) s fun ex s' => match ex with
    | .normal => evC P T nt ann none b (2 * p + 1) s' k
    | e => k e s'
  | none, .cond c x y, p, s, k =>
    joinK (ann p) (wrC ann (.cond c x y) p) s k fun k => match evD s.e c with
      | .v (.one (.bool b)) => if b = true then evC P T nt ann none x (2 * p) s k else evC P T nt ann none y (2 * p + 1) s k
      | .v (.one .ub) => both (evC P T nt ann none x (2 * p) s k) (evC P T nt ann none y (2 * p + 1) s k)
      | _ => none
  | none, .block id b, p, s, k =>
    joinK (ann p) (wrC ann (.block id b) p) s k fun k => evC P T nt ann none b (2 * p) s fun ex s' => match ex with
      | .exit i => if i = id then k .normal s' else k (.exit i) s'
      | e => k e s'
  | none, .loop b, p, s, k => match ann p with
    | none => none
    | some pk => packK pk s s fun x => iterK rounds (fun x rec => evC P T nt ann none b (2 * p) (unpack pk (wrC ann (.loop b) p) s x) fun ex s' => match ex with
      | .normal => packK pk s s' rec
      | e => k e s') x
  | none, .scope b, p, s, k => match ann p, labelIn b with
    | some pk, some l => evC P T nt ann none b (2 * p) s fun ex s' => match ex with
      | .goto l' => if l' = l then packK pk s s' fun x => iterK rounds (fun x rec => evC P T nt ann (some l) b (2 * p + 1) (unpack pk (wrC ann (.scope b) p) s x) fun ex s' => match ex with
        | .goto l' => if l' = l then packK pk s s' rec else none
        | e => k e s') x else none
      | e => k e s'
    | _, _ => evC P T nt ann none b (2 * p) s fun ex s' => match ex with
      | .goto _ => none
      | e => k e s'
  | none, .exit id, _, s, k => k (.exit id) s
  | none, .goto l, _, s, k => k (.goto l) s
  | none, .ret, _, s, k => k .ret s
  | none, _, _, _, _ => none

/-- The results, as they are handed back. -/
def resVals (P : Program) (s : S) : List ResultVar → Option (List D)
  | [] => some []
  | .tmp t :: r => match resVals P s r with
    | some ds => some (s.e t :: ds)
    | none => none
  | .cell t T :: r => match s.e t, tinfo P T with
    | .v (.one l), some ti => match cellsAt (fun j => (s.H j).vw) l with
      | some (ls, off) => match cut ls off (if isAggD ti.desc then ti.size else 1) with
        | some q => match mkD (isAggD ti.desc) q, resVals P s r with
          | some d, some ds => some (d :: ds)
          | _, _ => none
        | none => none
      | none => none
    | _, _ => none

def startS (ks : List K) (x : dens ks) : S :=
  let f := fillS (fun _ => .one .skip) (fun _ => .gone) 0 (tgSlots ks.length) ks x
  { e := f.1, H := f.2, nx := nobP (tgSlots ks.length) ks, dt := [] }

/-- What is lent to a call, when it begins: as it is handed back. -/
def lentD (ks : List K) (s : S) : List D := (lentA s.H ks ((List.range ks.length).map s.e)).zipWith (fun id k => tgD s (.obj id, k)) (backs ks)

/-- What a function computes. -/
noncomputable def fnSem (P : Program) (T : Nat → List Sp) (ann : Nat → Option PK) (f : Func) (ins outs : List K) (x : dens ins) : Option (dens (outs ++ backs ins)) :=
  match f.body with
  | none => none
  | some c => evC P T f.ntmps ann none c 1 (startS ins x) fun ex s => match ex with
    | .exit _ => none
    | .goto _ => none
    | _ => match resVals P s f.results.toList with
      | none => none
      | some ds => match pkA s.H (outs ++ backs ins) (ds ++ lentD ins (startS ins x)) with
        | some (y, fro, own) => bif lentOk fro own then some y else none
        | none => none

end Go.Proofs.Fr

/- What the plain values are in memory. -/
namespace Go.Proofs.Fr
open Go Go.RowKit

def All2 {α β : Type} (R : α → β → Prop) : List α → List β → Prop
  | [], [] => True
  | a :: as, b :: bs => R a b ∧ All2 R as bs
  | _, _ => False

namespace All2
variable {α β : Type} {R R' : α → β → Prop}
theorem len : ∀ {as : List α} {bs : List β}, All2 R as bs → as.length = bs.length
  | [], [], _ => rfl
  | _ :: _, _ :: _, h => by simp [len h.2]
  | [], _ :: _, h => h.elim
  | _ :: _, [], h => h.elim
theorem mono (hr : ∀ a b, R a b → R' a b) : ∀ {as : List α} {bs : List β}, All2 R as bs → All2 R' as bs
  | [], [], _ => trivial
  | _ :: _, _ :: _, h => ⟨hr _ _ h.1, mono hr h.2⟩
  | [], _ :: _, h => h.elim
  | _ :: _, [], h => h.elim
theorem mono_mem : ∀ {as : List α} {bs : List β}, (∀ a b, a ∈ as → R a b → R' a b) → All2 R as bs → All2 R' as bs
  | [], [], _, _ => trivial
  | _ :: _, _ :: _, hr, h => ⟨hr _ _ (.head _) h.1, mono_mem (fun a b ha => hr a b (.tail _ ha)) h.2⟩
  | [], _ :: _, _, h => h.elim
  | _ :: _, [], _, h => h.elim
theorem app : ∀ {as as' : List α} {bs bs' : List β}, All2 R as bs → All2 R as' bs' → All2 R (as ++ as') (bs ++ bs')
  | [], _, [], _, _, h' => h'
  | _ :: _, _, _ :: _, _, h, h' => ⟨h.1, app h.2 h'⟩
  | [], _, _ :: _, _, h, _ => h.elim
  | _ :: _, _, [], _, h, _ => h.elim
theorem get : ∀ {as : List α} {bs : List β}, All2 R as bs → ∀ i (h : i < as.length) (h' : i < bs.length), R as[i] bs[i]
  | _ :: _, _ :: _, h, 0, _, _ => h.1
  | _ :: _, _ :: _, h, i + 1, hi, hj => get h.2 i (by simpa using hi) (by simpa using hj)
  | [], _ :: _, h, _, _, _ => h.elim
  | _ :: _, [], h, _, _, _ => h.elim
theorem get? {as : List α} {bs : List β} (h : All2 R as bs) {i : Nat} {a : α} (ha : as[i]? = some a) : ∃ b, bs[i]? = some b ∧ R a b := by
  obtain ⟨hi, rfl⟩ := List.getElem?_eq_some_iff.1 ha
  have hj : i < bs.length := h.len ▸ hi
  exact ⟨bs[i], List.getElem?_eq_getElem hj, h.get i hi hj⟩
theorem get?' {as : List α} {bs : List β} (h : All2 R as bs) {i : Nat} {b : β} (hb : bs[i]? = some b) : ∃ a, as[i]? = some a ∧ R a b := by
  obtain ⟨hj, rfl⟩ := List.getElem?_eq_some_iff.1 hb
  have hi : i < as.length := h.len ▸ hj
  exact ⟨as[i], List.getElem?_eq_getElem hi, h.get i hi hj⟩
theorem take : ∀ {as : List α} {bs : List β}, All2 R as bs → ∀ n, All2 R (as.take n) (bs.take n)
  | _, _, _, 0 => by simp [All2]
  | [], [], _, _ + 1 => trivial
  | _ :: _, _ :: _, h, n + 1 => ⟨h.1, take h.2 n⟩
  | [], _ :: _, h, _ => h.elim
  | _ :: _, [], h, _ => h.elim
theorem drop : ∀ {as : List α} {bs : List β}, All2 R as bs → ∀ n, All2 R (as.drop n) (bs.drop n)
  | _, _, h, 0 => h
  | [], [], _, _ + 1 => trivial
  | _ :: _, _ :: _, h, n + 1 => drop h.2 n
  | [], _ :: _, h, _ => h.elim
  | _ :: _, [], h, _ => h.elim
theorem set : ∀ {as : List α} {bs : List β}, All2 R as bs → ∀ i {a b}, R a b → All2 R (as.set i a) (bs.set i b)
  | [], [], _, _, _, _, _ => trivial
  | _ :: _, _ :: _, h, 0, _, _, hab => ⟨hab, h.2⟩
  | _ :: _, _ :: _, h, i + 1, _, _, hab => ⟨h.1, set h.2 i hab⟩
  | [], _ :: _, h, _, _, _, _ => h.elim
  | _ :: _, [], h, _, _, _, _ => h.elim
theorem of_get : ∀ {as : List α} {bs : List β}, as.length = bs.length → (∀ i (h : i < as.length) (h' : i < bs.length), R as[i] bs[i]) → All2 R as bs
  | [], [], _, _ => trivial
  | _ :: _, _ :: _, hl, h => ⟨h 0 (by simp) (by simp), of_get (by simpa using hl) fun i h1 h2 => h (i + 1) (by simpa using h1) (by simpa using h2)⟩
  | [], _ :: _, hl, _ => by simp at hl
  | _ :: _, [], hl, _ => by simp at hl
theorem split : ∀ {as as' : List α} {bs : List β}, All2 R (as ++ as') bs → ∃ b1 b2, bs = b1 ++ b2 ∧ All2 R as b1 ∧ All2 R as' b2
  | [], _, bs, h => ⟨[], bs, rfl, trivial, h⟩
  | _ :: _, _, b :: _, h => by
    obtain ⟨b1, b2, rfl, h1, h2⟩ := split h.2
    exact ⟨b :: b1, b2, rfl, ⟨h.1, h1⟩, h2⟩
  | _ :: _, _, [], h => h.elim
theorem nil_r {as : List α} (h : All2 R as []) : as = [] := by cases as <;> first | rfl | exact h.elim
theorem nil_l {bs : List β} (h : All2 R [] bs) : bs = [] := by cases bs <;> first | rfl | exact h.elim
theorem cons_l {a : α} {as : List α} {bs : List β} (h : All2 R (a :: as) bs) : ∃ b r, bs = b :: r ∧ R a b ∧ All2 R as r := by
  cases bs with
  | nil => exact h.elim
  | cons b r => exact ⟨b, r, rfl, h.1, h.2⟩
end All2

/-- The cells that a value of a type takes; a row's cells stand in blocks that 'ok' names. -/
def En (w : World) (ok : Nat → Prop) : (t : Ty) → t.den → List Value → Prop
  | .int k, n, vs => vs = [.int k n]
  | .bool, b, vs => vs = [.bool b]
  | .str, s, vs => vs = [.string s]
  | .sl _ t, xs, vs => ∃ (A : Option Addr) (c : Nat), vs = [.slice A (List.length (α := t.den) xs) c] ∧ List.length (α := t.den) xs ≤ c ∧
      ∀ (i : Nat) (h : i < List.length (α := t.den) xs), ∃ k o cs, A = some ⟨k, o, none⟩ ∧ ok k ∧ En w ok t (xs[i]'h) cs ∧ ∀ j (hj : j < cs.length), w.cell? ⟨k, o + i * t.sz + j, none⟩ = some cs[j]
  | .nil, _, vs => vs = []
  | .cons a b, x, vs => ∃ c1 c2, vs = c1 ++ c2 ∧ En w ok a x.1 c1 ∧ En w ok b x.2 c2

theorem En.len {w : World} {ok : Nat → Prop} : ∀ {t : Ty} {x : t.den} {cs : List Value}, En w ok t x cs → cs.length = t.sz
  | .int _, _, _, h => by rw [show _ = _ from h]; rfl
  | .bool, _, _, h => by rw [show _ = _ from h]; rfl
  | .str, _, _, h => by rw [show _ = _ from h]; rfl
  | .sl _ _, _, _, h => by obtain ⟨A, c, rfl, _⟩ := h; rfl
  | .nil, _, _, h => by rw [show _ = _ from h]; rfl
  | .cons a b, _, _, h => by
    obtain ⟨c1, c2, rfl, h1, h2⟩ := h
    simp [Ty.sz, h1.len, h2.len]

theorem En.one {w : World} {ok : Nat → Prop} : ∀ {t : Ty} {x : t.den} {cs : List Value}, En w ok t x cs → ∀ u ∈ cs, u.oneCell' = true
  | .int _, _, _, h, u, hu => by rw [show _ = _ from h] at hu; simp at hu; subst hu; rfl
  | .bool, _, _, h, u, hu => by rw [show _ = _ from h] at hu; simp at hu; subst hu; rfl
  | .str, _, _, h, u, hu => by rw [show _ = _ from h] at hu; simp at hu; subst hu; rfl
  | .sl _ _, _, _, h, u, hu => by obtain ⟨A, c, rfl, _⟩ := h; simp at hu; subst hu; rfl
  | .nil, _, _, h, u, hu => by rw [show _ = _ from h] at hu; simp at hu
  | .cons a b, _, _, h, u, hu => by
    obtain ⟨c1, c2, rfl, h1, h2⟩ := h
    rcases List.mem_append.1 hu with hu | hu
    · exact h1.one u hu
    · exact h2.one u hu

theorem cell_same {w w' : World} {k o : Nat} (h : w'.heap[k]? = w.heap[k]?) : w'.cell? ⟨k, o, none⟩ = w.cell? ⟨k, o, none⟩ := World.cell?_of_block (a := ⟨k, o, none⟩) h

theorem En.mono {w w' : World} {ok ok' : Nat → Prop} (hk : ∀ k, ok k → ok' k ∧ w'.heap[k]? = w.heap[k]?) : ∀ {t : Ty} {x : t.den} {cs : List Value}, En w ok t x cs → En w' ok' t x cs
  | .int _, _, _, h => h
  | .bool, _, _, h => h
  | .str, _, _, h => h
  | .sl _ t, xs, _, h => by
    obtain ⟨A, c, hv, hc, hr⟩ := h
    refine ⟨A, c, hv, hc, fun i hi => ?_⟩
    obtain ⟨k, o, cs, hA, hok, he, hcell⟩ := hr i hi
    exact ⟨k, o, cs, hA, (hk k hok).1, En.mono hk he, fun j hj => (cell_same (hk k hok).2).trans (hcell j hj)⟩
  | .nil, _, _, h => h
  | .cons a b, _, _, h => by
    obtain ⟨c1, c2, rfl, h1, h2⟩ := h
    exact ⟨c1, c2, rfl, En.mono hk h1, En.mono hk h2⟩

def shO : Ob → Option (Bool × Ty × Nat)
  | .gone => none
  | .box .. => some (true, .nil, 0)
  | .fbx .. => some (true, .nil, 0)
  | .clo .. => some (false, .nil, 0)
  | .row _ t xs => some (false, t, xs.length)
  | .fr _ t xs => some (false, t, xs.length)

/-- A cell's value, in memory: g names each object's place. -/
def LR (g : Nat → Value) (H : Nat → Ob) (w : World) (ok : Nat → Prop) : L → Value → Prop
  | .undef, _ => True
  | .skip, v => v = undef
  | .int k n, v => v = .int k n
  | .bool b, v => v = .bool b
  | .str s, v => v = .string s
  | .row E t xs, v => En w ok (.sl E t) xs [v]
  | .nils, v => v = .slice none 0 0
  | .own id, v => v.oneCell' = true ∧ ∀ t n, shO (H id) = some (false, t, n) → v = g id
  | .ptr id off, v => (∃ a, v = .pointer (some a)) ∧ ∀ q, shO (H id) = some (true, q) → ∃ k, g id = .pointer (some ⟨k, 0, none⟩) ∧ v = .pointer (some ⟨k, off, none⟩)
  | .elo id i off, v => v.oneCell' = true ∧ ∀ t n, shO (H id) = some (false, t, n) → i < n ∧ ∃ k o m c, g id = .slice (some ⟨k, o, none⟩) m c ∧ v = .pointer (some ⟨k, o + i * t.sz + off, none⟩)
  | .els E t xs i off, v => i < xs.length ∧ ∃ k o n c, En w ok (.sl E t) xs [.slice (some ⟨k, o, none⟩) n c] ∧ v = .pointer (some ⟨k, o + i * t.sz + off, none⟩)
  | .nilp, v => v = .pointer none
  | .fn f, v => v = .func (.func f) #[] #[]
  | .ub, v => ∃ b, v = .bool b
  | .cl id, v => v.oneCell' = true ∧ ∀ t n, shO (H id) = some (false, t, n) → v = g id
  | .cut id n, v => v.oneCell' = true ∧ ∀ t m, shO (H id) = some (false, t, m) → n ≤ m ∧ ∃ A c, g id = .slice A m c ∧ v = .slice A n c
  | .vi id lo hi, v => v.oneCell' = true ∧ ∀ t m, shO (H id) = some (false, t, m) → (lo ≤ hi ∧ hi ≤ m) ∧ ∃ A A' c, g id = .slice A m c ∧ v = .slice A' (hi - lo) (c - lo) ∧ ((A = none ∧ A' = none) ∨ ∃ ad ad', A = some ad ∧ A' = some ad' ∧ ((c = lo ∧ ∃ j, j ≤ lo ∧ ad' = ad.add (j * t.sz)) ∨ ad' = ad.add (lo * t.sz)))

def D0R (g : Nat → Value) (H : Nat → Ob) (w : World) (ok : Nat → Prop) : D0 → Value → Prop
  | .one l, v => LR g H w ok l v
  | .agg ls, v => ∃ cs, v = .agg cs ∧ All2 (LR g H w ok) ls cs.toList
def DR (g : Nat → Value) (H : Nat → Ob) (w : World) (ok : Nat → Prop) : D → Value → Prop
  | .v d, v => D0R g H w ok d v
  | .tup ds, v => ∃ vs, v = .tuple vs ∧ All2 (D0R g H w ok) ds vs.toList

/-- An object that goes on being what it was for those who know it. -/
def cmp (g : Nat → Value) (H : Nat → Ob) (g' : Nat → Value) (H' : Nat → Ob) (id : Nat) : Prop :=
  shO (H' id) = none ∨ (shO (H' id) = shO (H id) ∧ g' id = g id)

variable {g g' : Nat → Value} {H H' : Nat → Ob} {w w' : World} {ok ok' : Nat → Prop}

theorem LR.mono (hk : ∀ k, ok k → ok' k ∧ w'.heap[k]? = w.heap[k]?) {l : L} {v : Value} (hid : ∀ id ∈ l.ids, cmp g H g' H' id) (h : LR g H w ok l v) : LR g' H' w' ok' l v := by
  cases l with
  | row E t xs => exact En.mono (t := .sl E t) hk h
  | own id =>
    refine ⟨h.1, fun t n hs => ?_⟩
    rcases hid id (by simp [L.ids]) with hc | ⟨hc, hg⟩
    · rw [hc] at hs; cases hs
    · rw [hg]; exact h.2 t n (hc ▸ hs)
  | ptr id off =>
    refine ⟨h.1, fun q hs => ?_⟩
    rcases hid id (by simp [L.ids]) with hc | ⟨hc, hg⟩
    · rw [hc] at hs; cases hs
    · rw [hg]; exact h.2 q (hc ▸ hs)
  | elo id i off =>
    refine ⟨h.1, fun t n hs => ?_⟩
    rcases hid id (by simp [L.ids]) with hc | ⟨hc, hg⟩
    · rw [hc] at hs; cases hs
    · rw [hg]; exact h.2 t n (hc ▸ hs)
  | cl id =>
    refine ⟨h.1, fun t n hs => ?_⟩
    rcases hid id (by simp [L.ids]) with hc | ⟨hc, hg⟩
    · rw [hc] at hs; cases hs
    · rw [hg]; exact h.2 t n (hc ▸ hs)
  | cut id n =>
    refine ⟨h.1, fun t n hs => ?_⟩
    rcases hid id (by simp [L.ids]) with hc | ⟨hc, hg⟩
    · rw [hc] at hs; cases hs
    · rw [hg]; exact h.2 t n (hc ▸ hs)
  | vi id lo hi =>
    refine ⟨h.1, fun t n hs => ?_⟩
    rcases hid id (by simp [L.ids]) with hc | ⟨hc, hg⟩
    · rw [hc] at hs; cases hs
    · rw [hg]; exact h.2 t n (hc ▸ hs)
  | els E t xs i off =>
    obtain ⟨hi, k, o, n, c, he, hv⟩ := h
    exact ⟨hi, k, o, n, c, En.mono (t := .sl E t) hk he, hv⟩
  | _ => exact h

theorem D0R.mono (hk : ∀ k, ok k → ok' k ∧ w'.heap[k]? = w.heap[k]?) {d : D0} {v : Value} (hid : ∀ id ∈ d.ids, cmp g H g' H' id) (h : D0R g H w ok d v) : D0R g' H' w' ok' d v := by
  cases d with
  | one l => exact LR.mono hk (fun id hi => hid id (by simpa [D0.ids, D0.ls] using hi)) h
  | agg ls =>
    obtain ⟨cs, rfl, hc⟩ := h
    exact ⟨cs, rfl, hc.mono_mem fun a b ha hab => LR.mono hk (fun id hi => hid id (by simp only [D0.ids, D0.ls, List.mem_flatMap]; exact ⟨a, ha, hi⟩)) hab⟩

theorem DR.mono (hk : ∀ k, ok k → ok' k ∧ w'.heap[k]? = w.heap[k]?) {d : D} {v : Value} (hid : ∀ id ∈ d.ids, cmp g H g' H' id) (h : DR g H w ok d v) : DR g' H' w' ok' d v := by
  cases d with
  | v d => exact D0R.mono hk hid h
  | tup ds =>
    obtain ⟨vs, rfl, hc⟩ := h
    exact ⟨vs, rfl, hc.mono_mem fun a b ha hab => D0R.mono hk (fun id hi => hid id (by simp only [D.ids, List.mem_flatMap]; exact ⟨a, ha, hi⟩)) hab⟩

def blkOf : Value → Option Nat
  | .pointer (some a) => some a.block
  | .slice (some a) _ _ => some a.block
  | _ => none

def owned (g : Nat → Value) (H : Nat → Ob) (i : Nat) : Option Nat :=
  match H i with
  | .box .. => blkOf (g i)
  | .row .. => blkOf (g i)
  | _ => none

/-- Where a call began: its world, the blocks that it may hand on, those that it may write; its objects at the start. -/
structure Bs where
  W : World
  A : Nat → Prop
  O : Nat → Prop
  on : ∀ k, W.heap.size ≤ k → O k
  al : ∀ k, O k → A k
  n0 : Nat
  g0 : Nat → Value
  sh0 : Nat → Option (Bool × Ty × Nat)

/-- What else is as it was. -/
structure BelowO (O : Nat → Prop) (W w : World) : Prop where
  os : w.os = W.os
  tape : w.tape = W.tape
  output : w.output = W.output
  size : W.heap.size ≤ w.heap.size
  block : ∀ k, k < W.heap.size → ¬ O k → w.heap[k]? = W.heap[k]?

def okB (B : Bs) (g : Nat → Value) (H : Nat → Ob) (w : World) (k : Nat) : Prop := k < w.heap.size ∧ (∀ i, owned g H i ≠ some k) ∧ B.A k

/-- A row of the call's own: a slice in a block that bears no mark and goes on at least as long as the capacity. -/
def ownsR (w : World) (e : TypeId) (size : Nat) (v : Value) (n : Nat) (xs : List Value) : Prop :=
  xs.length = n * size ∧
  ((v = .slice none 0 0 ∧ n = 0) ∨
   ∃ g o cap cur, v = .slice (some ⟨g, o, none⟩) n cap ∧ 0 ≤ g ∧ w.heap[g]? = some (.cells cur e (0, 0)) ∧ n ≤ cap ∧ cap ≤ maxLen ∧ o + cap * size ≤ cur.size ∧ (cur.toList.drop o).take (n * size) = xs)

theorem ownsR_of {w : World} {b : Nat} {e : TypeId} {size : Nat} {v : Value} {n : Nat} {xs : List Value} (h : w.ownsRow b e size v n xs) : ownsR w e size v n xs := by
  refine ⟨h.1, ?_⟩
  rcases h.2 with h | ⟨g, cap, cur, h1, _, h3, h4, h5, h6, h7⟩
  · exact .inl h
  · exact .inr ⟨g, 0, cap, cur, h1, Nat.zero_le _, h3, h4, h5, by rw [Nat.zero_add]; exact Nat.le_of_eq h6.symm, by rw [List.drop_zero]; exact h7⟩

theorem ownsR_nil (w : World) (e : TypeId) (size : Nat) : ownsR w e size (.slice none 0 0) 0 [] := ownsR_of (World.ownsRow_nil w 0 e size)

def RowO (w : World) (ok : Nat → Prop) (E : Nat) (t : Ty) (xs : List t.den) (v : Value) : Prop :=
  ∃ css, All2 (En w ok t) xs css ∧ ownsR w E t.sz v xs.length css.flatten

def OB (g : Nat → Value) (H : Nat → Ob) (w : World) (ok : Nat → Prop) (id : Nat) : Ob → Prop
  | .gone => True
  | .box T ls => ∃ k arr, g id = .pointer (some ⟨k, 0, none⟩) ∧ w.heap[k]? = some (.cells arr T (0, 0)) ∧ All2 (LR g H w ok) ls arr.toList
  | .row E t xs => RowO w ok E t xs (g id)
  | .fr E t xs => En w ok (.sl E t) xs [g id]
  | .fbx T ls => ∃ k arr, g id = .pointer (some ⟨k, 0, none⟩) ∧ w.heap[k]? = some (.cells arr T (0, 0)) ∧ ok k ∧ All2 (LR g H w ok) ls arr.toList
  | .clo f ls => ∃ caps, g id = .func (.func f) #[] caps ∧ All2 (LR g H w ok) ls caps.toList

structure Rel (B : Bs) (nt : Nat) (fr : Nat → Prop) (s : S) (g : Nat → Value) (a : Act) (w : World) : Prop where
  slots : ∀ i, DR g s.H w (okB B g s.H w) (s.e i) (a.tmps.getD i undef)
  sold : ∀ i, ∀ id ∈ (s.e i).ids, ¬ fr id
  objs : ∀ id, OB g s.H w (okB B g s.H w) id (s.H id)
  kold : ∀ id, ∀ j ∈ (s.H id).kids, ¬ fr j
  disj : ∀ i j k, owned g s.H i = some k → owned g s.H j = some k → i = j
  base : ∀ i k, owned g s.H i = some k → B.O k
  frm : BelowO B.O B.W w
  fresh : ∀ id, fr id → s.H id = .gone
  size : nt ≤ a.tmps.size
  dfr : a.defers = []
  kp : ∀ id, id < B.n0 → ¬ fr id ∧ (shO (s.H id) = none ∨ (shO (s.H id) = B.sh0 id ∧ g id = B.g0 id))

theorem Rel.bold {B : Bs} {nt : Nat} {fr : Nat → Prop} {s : S} {g : Nat → Value} {a : Act} {w : World} (hr : Rel B nt fr s g a w) (id T : Nat) (ls : List L) (h : s.H id = .box T ls) : ∀ l ∈ ls, ∀ j ∈ l.ids, ¬ fr j :=
  fun l hl j hj => hr.kold id j (by rw [h]; exact List.mem_flatMap.2 ⟨l, hl, hj⟩)

theorem RowO.lt {E : Nat} {t : Ty} {xs : List t.den} {v : Value} (h : RowO w ok E t xs v) {k : Nat} (hk : blkOf v = some k) : k < w.heap.size := by
  obtain ⟨css, _, ho⟩ := h
  rcases ho.2 with ⟨rfl, _⟩ | ⟨q, o, cap, cur, rfl, _, hh, _⟩
  · simp [blkOf] at hk
  · simp [blkOf] at hk; subst hk; exact (Array.getElem?_eq_some_iff.1 hh).1

theorem OB.lt {id : Nat} {o : Ob} (h : OB g H w ok id o) (ho : H id = o) {k : Nat} (hk : owned g H id = some k) : k < w.heap.size := by
  subst ho
  unfold owned at hk
  split at hk
  · rename_i T ls e
    rw [e] at h
    obtain ⟨q, arr, hg, hh, _⟩ := h
    rw [hg] at hk; simp [blkOf] at hk; subst hk; exact (Array.getElem?_eq_some_iff.1 hh).1
  · rename_i E t xs e
    rw [e] at h
    exact RowO.lt h hk
  · cases hk

theorem RowO.mono (hk : ∀ k, ok k → ok' k ∧ w'.heap[k]? = w.heap[k]?) {E : Nat} {t : Ty} {xs : List t.den} {v : Value}
    (hb : ∀ k, blkOf v = some k → w'.heap[k]? = w.heap[k]?) (h : RowO w ok E t xs v) : RowO w' ok' E t xs v := by
  obtain ⟨css, hc, ho⟩ := h
  refine ⟨css, hc.mono fun _ _ => En.mono hk, ho.1, ?_⟩
  rcases ho.2 with h2 | ⟨q, o, cap, cur, rfl, hq, hh, r⟩
  · exact .inl h2
  · exact .inr ⟨q, o, cap, cur, rfl, hq, (hb q (by simp [blkOf])).trans hh, r⟩

theorem OB.mono (hk : ∀ k, ok k → ok' k ∧ w'.heap[k]? = w.heap[k]?) {id : Nat} {o : Ob} (hg : g' id = g id)
    (ho : H id = o) (hb : ∀ k, owned g H id = some k → w'.heap[k]? = w.heap[k]?)
    (hl : ∀ j ∈ o.kids, cmp g H g' H' j) (h : OB g H w ok id o) : OB g' H' w' ok' id o := by
  cases o with
  | gone => trivial
  | box T ls =>
    obtain ⟨k, arr, e, hh, hc⟩ := h
    refine ⟨k, arr, hg.trans e, (hb k (by simp [owned, ho, e, blkOf])).trans hh, hc.mono_mem fun l v hm hr => LR.mono hk (fun j hj => hl j (List.mem_flatMap.2 ⟨l, hm, hj⟩)) hr⟩
  | row E t xs => rw [OB, hg]; exact RowO.mono hk (fun k e => hb k (by simpa [owned, ho] using e)) h
  | fr E t xs => rw [OB, hg]; exact En.mono (t := .sl E t) hk h
  | fbx T ls =>
    obtain ⟨k, arr, e, hh, hkk, hc⟩ := h
    exact ⟨k, arr, hg.trans e, (hk k hkk).2.trans hh, (hk k hkk).1, hc.mono_mem fun l v hm hr => LR.mono hk (fun j hj => hl j (List.mem_flatMap.2 ⟨l, hm, hj⟩)) hr⟩
  | clo f ls =>
    obtain ⟨caps, e, hc⟩ := h
    exact ⟨caps, hg.trans e, hc.mono_mem fun l v hm hr => LR.mono hk (fun j hj => hl j (List.mem_flatMap.2 ⟨l, hm, hj⟩)) hr⟩

variable {B : Bs} {nt : Nat} {fr fr' : Nat → Prop} {s s' : S} {a a' : Act}

/-- One step: some objects are touched, all else is as it was. -/
theorem Rel.gen (hr : Rel B nt fr s g a w) (tch kept : Nat → Prop)
    (hun : ∀ id, ¬ tch id → s'.H id = s.H id ∧ g' id = g id)
    (hkept : ∀ id, kept id → cmp g s.H g' s'.H id)
    (hkid : ∀ id, ¬ tch id → ∀ j ∈ (s.H id).kids, kept j)
    (hown : ∀ id k, tch id → owned g' s'.H id = some k → w.heap.size ≤ k ∨ ∃ j, tch j ∧ owned g s.H j = some k)
    (hdisj : ∀ i j k, tch i → tch j → owned g' s'.H i = some k → owned g' s'.H j = some k → i = j)
    (hheap : ∀ k, k < w.heap.size → (∀ j, tch j → owned g s.H j ≠ some k) → w'.heap[k]? = w.heap[k]?)
    (hos : w'.os = w.os) (htape : w'.tape = w.tape) (hout : w'.output = w.output) (hsz : w.heap.size ≤ w'.heap.size)
    (hslot : (∀ k, okB B g s.H w k → okB B g' s'.H w' k ∧ w'.heap[k]? = w.heap[k]?) → ∀ t, (s'.e t = s.e t ∧ a'.tmps.getD t undef = a.tmps.getD t undef ∧ ∀ id ∈ (s.e t).ids, kept id) ∨ DR g' s'.H w' (okB B g' s'.H w') (s'.e t) (a'.tmps.getD t undef))
    (hsold : ∀ t, ∀ id ∈ (s'.e t).ids, ¬ fr' id)
    (hob : (∀ k, okB B g s.H w k → okB B g' s'.H w' k ∧ w'.heap[k]? = w.heap[k]?) → ∀ id, tch id → OB g' s'.H w' (okB B g' s'.H w') id (s'.H id))
    (hkold : ∀ id, ∀ j ∈ (s'.H id).kids, ¬ fr' j)
    (hfresh : ∀ id, fr' id → s'.H id = .gone)
    (hkp : ∀ id, id < B.n0 → kept id ∧ ¬ fr' id)
    (hasz : nt ≤ a'.tmps.size) (hdf : a'.defers = []) : Rel B nt fr' s' g' a' w' := by
  have hot : ∀ id, ¬ tch id → owned g' s'.H id = owned g s.H id := fun id h => by
    obtain ⟨h1, h2⟩ := hun id h
    simp only [owned, h1, h2]
  have hlt : ∀ i k, owned g s.H i = some k → k < w.heap.size := fun i k h => OB.lt (hr.objs i) rfl h
  have hk : ∀ k, okB B g s.H w k → okB B g' s'.H w' k ∧ w'.heap[k]? = w.heap[k]? := by
    intro k hk
    refine ⟨⟨Nat.lt_of_lt_of_le hk.1 hsz, fun i hi => ?_, hk.2.2⟩, hheap k hk.1 fun j _ => hk.2.1 j⟩
    by_cases ht : tch i
    · rcases hown i k ht hi with h | ⟨j, _, hj⟩
      · exact absurd hk.1 (by omega)
      · exact hk.2.1 j hj
    · exact hk.2.1 i ((hot i ht) ▸ hi)
  refine ⟨fun t => ?_, hsold, fun id => ?_, hkold, fun i j k hi hj => ?_, fun i k hi => ?_, ?_, hfresh, hasz, hdf, fun id hid => ?_⟩
  · rcases hslot hk t with ⟨h1, h2, h3⟩ | h
    · rw [h1, h2]; exact DR.mono hk (fun id hid => hkept id (h3 id hid)) (hr.slots t)
    · exact h
  · by_cases ht : tch id
    · exact hob hk id ht
    · obtain ⟨h1, h2⟩ := hun id ht
      rw [h1]
      refine OB.mono hk h2 rfl (fun k ho => ?_) (fun j hj => hkept j (hkid id ht j hj)) (hr.objs id)
      refine hheap k (hlt id k ho) fun j hj hjk => ht ?_
      rw [hr.disj id j k ho hjk]; exact hj
  · by_cases hti : tch i <;> by_cases htj : tch j
    · exact hdisj i j k hti htj hi hj
    · rw [hot j htj] at hj
      rcases hown i k hti hi with h | ⟨q, hq, hqk⟩
      · exact absurd (hlt j k hj) (by omega)
      · exact absurd (hr.disj j q k hj hqk ▸ hq) htj
    · rw [hot i hti] at hi
      rcases hown j k htj hj with h | ⟨q, hq, hqk⟩
      · exact absurd (hlt i k hi) (by omega)
      · exact absurd (hr.disj i q k hi hqk ▸ hq) hti
    · rw [hot i hti] at hi; rw [hot j htj] at hj; exact hr.disj i j k hi hj
  · by_cases ht : tch i
    · rcases hown i k ht hi with h | ⟨q, _, hqk⟩
      · exact B.on k (Nat.le_trans hr.frm.size h)
      · exact hr.base q k hqk
    · exact hr.base i k (hot i ht ▸ hi)
  · refine ⟨hos.trans hr.frm.os, htape.trans hr.frm.tape, hout.trans hr.frm.output, Nat.le_trans hr.frm.size hsz, fun k hkB hkO => ?_⟩
    refine (hheap k (Nat.lt_of_lt_of_le hkB hr.frm.size) fun j _ hj => ?_).trans (hr.frm.block k hkB hkO)
    exact absurd (hr.base j k hj) hkO
  · obtain ⟨h1, h2⟩ := hkp id hid
    refine ⟨h2, ?_⟩
    rcases hkept id h1 with h | ⟨h, hg⟩
    · exact .inl h
    · rcases (hr.kp id hid).2 with h3 | ⟨h3, h4⟩
      · exact .inl (h.trans h3)
      · exact .inr ⟨h.trans h3, hg.trans h4⟩

theorem Rel.step (hr : Rel B nt fr s g a w) (tch : Nat → Prop) (he : s'.e = s.e) (hfr : ∀ id, fr' id → fr id)
    (hun : ∀ id, ¬ tch id → s'.H id = s.H id ∧ g' id = g id)
    (hcmp : ∀ id, tch id → ¬ fr id → cmp g s.H g' s'.H id)
    (hown : ∀ id k, tch id → owned g' s'.H id = some k → w.heap.size ≤ k ∨ ∃ j, tch j ∧ owned g s.H j = some k)
    (hdisj : ∀ i j k, tch i → tch j → owned g' s'.H i = some k → owned g' s'.H j = some k → i = j)
    (hheap : ∀ k, k < w.heap.size → (∀ j, tch j → owned g s.H j ≠ some k) → w'.heap[k]? = w.heap[k]?)
    (hos : w'.os = w.os) (htape : w'.tape = w.tape) (hout : w'.output = w.output) (hsz : w.heap.size ≤ w'.heap.size)
    (hob : (∀ k, okB B g s.H w k → okB B g' s'.H w' k ∧ w'.heap[k]? = w.heap[k]?) → (∀ id, ¬ fr id → cmp g s.H g' s'.H id) → ∀ id, tch id → OB g' s'.H w' (okB B g' s'.H w') id (s'.H id))
    (hkold : ∀ id, tch id → ∀ j ∈ (s'.H id).kids, ¬ fr' j)
    (hfresh : ∀ id, fr' id → s'.H id = .gone) : Rel B nt fr' s' g' a w' := by
  have hc : ∀ id, ¬ fr id → cmp g s.H g' s'.H id := by
    intro id hf
    by_cases ht : tch id
    · exact hcmp id ht hf
    · obtain ⟨h1, h2⟩ := hun id ht
      exact .inr ⟨by rw [h1], h2⟩
  refine Rel.gen hr tch (fun id => ¬ fr id) hun hc (fun id _ => hr.kold id) hown hdisj hheap hos htape hout hsz (fun _ t => .inl ⟨by rw [he], rfl, hr.sold t⟩) (fun t id hid hf => ?_) (fun hk => hob hk hc) (fun id j hj hf => ?_) hfresh (fun id hid => ⟨(hr.kp id hid).1, fun h => (hr.kp id hid).1 (hfr id h)⟩) hr.size hr.dfr
  · rw [he] at hid; exact hr.sold t id hid (hfr id hf)
  · by_cases ht : tch id
    · exact hkold id ht j hj hf
    · exact hr.kold id j ((hun id ht).1 ▸ hj) (hfr j hf)

theorem getD_set (t : Array Value) (i j : Nat) (v : Value) (h : i < t.size) : (t.setIfInBounds i v).getD j undef = if j = i then v else t.getD j undef := by
  simp only [Array.getD_eq_getD_getElem?, Array.getElem?_setIfInBounds]
  by_cases e : i = j
  · subst e; simp [h]
  · have : ¬ j = i := fun h => e h.symm
    simp [e, this]

theorem Rel.put_ (hr : Rel B nt fr s g a w) {dst : Option Nat} (hd : dstOk nt dst = true) {d : D} {v : Value} (hv : DR g s.H w (okB B g s.H w) d v) (hid : ∀ id ∈ d.ids, ¬ fr id) :
    Rel B nt fr (s.put dst d) g (a.put dst v) w := by
  cases dst with
  | none => exact hr
  | some t =>
    have ht : t < a.tmps.size := Nat.lt_of_lt_of_le (by simpa [dstOk] using hd) hr.size
    refine ⟨fun i => ?_, fun i => ?_, hr.objs, hr.kold, hr.disj, hr.base, hr.frm, hr.fresh, by simpa [Act.put] using hr.size, hr.dfr, hr.kp⟩
    · simp only [S.put, Act.put, getD_set _ _ _ _ ht]
      by_cases e : i = t
      · subst e; simpa [upd_same] using hv
      · rw [upd_ne _ _ e, if_neg e]; exact hr.slots i
    · simp only [S.put]
      by_cases e : i = t
      · subst e; rw [upd_same]; exact hid
      · rw [upd_ne _ _ e]; exact hr.sold i

end Go.Proofs.Fr

/- Cells read: what an address names, what values of types are in cells. -/
namespace Go.Proofs.Fr
open Go Go.RowKit

theorem tinfo_facts {P : Program} {T : TypeId} {ti : TI} (h : tinfo P T = some ti) :
    P.underlying T = some ti.desc ∧ ∃ i, P.info? T = some i ∧ i.zero = some ti.zero ∧ i.size = ti.size ∧ i.bytes = ti.bytes := by
  unfold tinfo at h
  split at h
  · rename_i d i hd hi
    split at h
    · rename_i z hz
      cases h
      exact ⟨hd, i, hi, hz, rfl, rfl⟩
    · cases h
  · cases h

theorem run_isAgg {P : Program} {T : TypeId} {d : TypeDesc} (h : P.underlying T = some d) (w : World) : (isAgg T).run P w = .ok (isAggD d) w := by
  unfold isAgg
  simp only [Sem.run_bind, run_underlying h, Result.andThen_ok]
  cases d <;> rfl

theorem run_sizeOf {P : Program} {T : TypeId} {ti : TI} (h : tinfo P T = some ti) (w : World) : (sizeOf T).run P w = .ok ti.size w := by
  obtain ⟨_, i, hi, _, hs, _⟩ := tinfo_facts h
  simp [sizeOf, typeInfo, hi, hs]

theorem run_zeroV {P : Program} {T : TypeId} {ti : TI} (h : tinfo P T = some ti) (w : World) : (zeroValue T).run P w = .ok ti.zero w := by
  obtain ⟨_, i, hi, hz, _⟩ := tinfo_facts h
  simp [zeroValue, typeInfo, hi, hz]

theorem add_at (k o j : Nat) : (⟨k, o, none⟩ : Addr).add j = ⟨k, o + j, none⟩ := by unfold Addr.add; split <;> simp_all

/-- The value of some cells. -/
def mkV (agg : Bool) (cs : List Value) : Value := if agg then .agg cs.toArray else cs.headD undef

theorem run_loadVar_cells {P : Program} {T : TypeId} {ti : TI} (h : tinfo P T = some ti) (w : World) (k o : Nat) (cs : List Value) (hl : cs.length = if isAggD ti.desc then ti.size else 1)
    (hc : ∀ j u, cs[j]? = some u → w.cell? ⟨k, o + j, none⟩ = some u) : (loadVar T ⟨k, o, none⟩).run P w = .ok (mkV (isAggD ti.desc) cs) w := by
  unfold loadVar mkV
  simp only [Sem.run_bind, run_isAgg (tinfo_facts h).1, Result.andThen_ok]
  cases hd : isAggD ti.desc
  · simp only [hd, Bool.false_eq_true, if_false] at hl ⊢
    obtain ⟨c, rfl⟩ := List.length_eq_one_iff.1 hl
    have h0 := hc 0 c rfl
    rw [Nat.add_zero] at h0
    simp [run_load, h0]
  · simp only [hd, if_true] at hl ⊢
    have := run_loadCells_list (P := P) (w := w) ⟨k, o, none⟩ cs (fun j v hj => by rw [add_at]; exact hc j v hj)
    simp [run_sizeOf h, ← hl, this]

variable {g : Nat → Value} {H : Nat → Ob} {w : World} {ok ok' : Nat → Prop}

theorem inj_LR : ∀ {t : Ty} {x : t.den} {cs : List Value}, En w ok t x cs → All2 (LR g H w ok) (inj t x) cs
  | .int _, _, _, h => by rw [show _ = _ from h]; exact ⟨rfl, trivial⟩
  | .bool, _, _, h => by rw [show _ = _ from h]; exact ⟨rfl, trivial⟩
  | .str, _, _, h => by rw [show _ = _ from h]; exact ⟨rfl, trivial⟩
  | .sl E t, xs, cs, h => by
    have h' := h
    obtain ⟨A, c, rfl, _⟩ := h'
    exact ⟨h, trivial⟩
  | .nil, _, _, h => by rw [show _ = _ from h]; exact trivial
  | .cons a b, _, _, h => by
    obtain ⟨c1, c2, rfl, h1, h2⟩ := h
    exact (inj_LR h1).app (inj_LR h2)

theorem injD_R {t : Ty} {x : t.den} {cs : List Value} (h : En w ok t x cs) : D0R g H w ok (injD t x) (mkV t.isAgg cs) := by
  cases t with
  | int k => rw [show _ = _ from h]; rfl
  | bool => rw [show _ = _ from h]; rfl
  | str => rw [show _ = _ from h]; rfl
  | sl E t => obtain ⟨A, c, rfl, hr⟩ := h; exact ⟨A, c, rfl, hr⟩
  | nil => rw [show _ = _ from h]; exact ⟨#[], rfl, trivial⟩
  | cons a b => exact ⟨cs.toArray, rfl, by simpa [inj] using inj_LR (g := g) (H := H) h⟩

theorem inj_ids : ∀ (t : Ty) (x : t.den), ∀ l ∈ inj t x, l.ids = []
  | .int _, _, l, hl => by simp [inj] at hl; subst hl; rfl
  | .bool, _, l, hl => by simp [inj] at hl; subst hl; rfl
  | .str, _, l, hl => by simp [inj] at hl; subst hl; rfl
  | .sl _ _, _, l, hl => by simp [inj] at hl; subst hl; rfl
  | .nil, _, l, hl => by simp [inj] at hl
  | .cons a b, x, l, hl => by
    rcases List.mem_append.1 hl with h | h
    · exact inj_ids a x.1 l h
    · exact inj_ids b x.2 l h

theorem injD_ids (t : Ty) (x : t.den) : (injD t x).ids = [] := by
  unfold D0.ids
  rw [injD_ls, List.flatMap_eq_nil_iff]
  exact inj_ids t x

/-- The cells of one element, among those of a row. -/
theorem flat_get {α : Type} {R : α → List Value → Prop} (n : Nat) : ∀ {xs : List α} {css : List (List Value)}, All2 R xs css → (∀ x c, R x c → c.length = n) →
    ∀ (i : Nat) (c : List Value), css[i]? = some c → ∀ j u, c[j]? = some u → css.flatten[i * n + j]? = some u
  | [], [], _, _, i, c, hc, _, _, _ => by simp at hc
  | [], _ :: _, h, _, _, _, _, _, _, _ => h.elim
  | _ :: _, [], h, _, _, _, _, _, _, _ => h.elim
  | x :: xs, c0 :: css, h, hl, 0, c, hc, j, u, hu => by
    simp at hc; subst hc
    obtain ⟨hj, _⟩ := List.getElem?_eq_some_iff.1 hu
    simp only [List.flatten_cons, Nat.zero_mul, Nat.zero_add]
    rw [List.getElem?_append_left hj]; exact hu
  | x :: xs, c0 :: css, h, hl, i + 1, c, hc, j, u, hu => by
    have h0 := hl x c0 h.1
    simp only [List.flatten_cons]
    rw [List.getElem?_append_right (by rw [h0, Nat.add_mul]; omega)]
    have := flat_get n h.2 hl i c (by simpa using hc) j u hu
    rw [h0, show (i + 1) * n + j - n = i * n + j by rw [Nat.add_mul]; omega]
    exact this

theorem flat_len {α : Type} {R : α → List Value → Prop} (n : Nat) : ∀ {xs : List α} {css : List (List Value)}, All2 R xs css → (∀ x c, R x c → c.length = n) → css.flatten.length = xs.length * n
  | [], [], _, _ => by simp
  | [], _ :: _, h, _ => h.elim
  | _ :: _, [], h, _ => h.elim
  | x :: xs, c0 :: css, h, hl => by
    simp only [List.flatten_cons, List.length_append, List.length_cons, hl x c0 h.1, flat_len n h.2 hl, Nat.add_mul]; omega

/-- The cells of a row of the call's own, in its block. -/
theorem RowO.at_ {E : Nat} {t : Ty} {xs : List t.den} {v : Value} (h : RowO w ok E t xs v) (i : Nat) (hi : i < xs.length) :
    ∃ k o c cs, v = .slice (some ⟨k, o, none⟩) xs.length c ∧ En w ok t xs[i] cs ∧ ∀ j u, cs[j]? = some u → w.cell? ⟨k, o + i * t.sz + j, none⟩ = some u := by
  obtain ⟨css, hc, ho⟩ := h
  rcases ho.2 with ⟨rfl, h0⟩ | ⟨q, o, cap, cur, rfl, _, hh, hn, _, _, htk⟩
  · omega
  · obtain ⟨cs, hcs, he⟩ := hc.get? (List.getElem?_eq_getElem hi)
    refine ⟨q, o, cap, cs, rfl, he, fun j u hj => ?_⟩
    have hf := flat_get (R := En w ok t) t.sz hc (fun _ _ h => h.len) i cs hcs j u hj
    rw [← htk] at hf
    have hlt := (List.getElem?_eq_some_iff.1 hf).1
    rw [List.getElem?_take_of_lt (by have := hlt; simp only [List.length_take] at this; omega), List.getElem?_drop, ← Nat.add_assoc] at hf
    simp only [World.cell?, hh, Option.isSome_none, Bool.false_eq_true, if_false]
    simpa using hf

theorem RowO.slice_ {E : Nat} {t : Ty} {xs : List t.den} {v : Value} (h : RowO w ok E t xs v) : ∃ A c, v = .slice A xs.length c ∧ xs.length ≤ c ∧ (∀ k, blkOf v = some k → ∃ o, A = some ⟨k, o, none⟩) := by
  obtain ⟨css, hc, ho⟩ := h
  rcases ho.2 with ⟨rfl, h0⟩ | ⟨q, o, cap, cur, rfl, _, hh, hn, _⟩
  · exact ⟨none, 0, by rw [h0], by omega, by simp [blkOf]⟩
  · exact ⟨_, cap, rfl, hn, by simp [blkOf]⟩

theorem RowO.en {E : Nat} {t : Ty} {xs : List t.den} {v : Value} (h : RowO w ok E t xs v) (hok : ∀ k, ok k → ok' k) (hv : ∀ k, blkOf v = some k → ok' k) : En w ok' (.sl E t) xs [v] := by
  obtain ⟨A, c, rfl, hc, hA⟩ := h.slice_
  refine ⟨A, c, rfl, hc, fun i hi => ?_⟩
  obtain ⟨k, o, c', cs, hv', he, hcell⟩ := h.at_ i hi
  cases hv'
  exact ⟨k, o, cs, rfl, hv k rfl, En.mono (fun k hk => ⟨hok k hk, rfl⟩) he, fun j hj => hcell j _ (List.getElem?_eq_getElem hj)⟩

theorem sh_of_vw {o : Ob} {E : Nat} {t : Ty} {xs : List t.den} (h : o.vw = .row E t xs) : shO o = some (false, t, xs.length) := by cases o <;> first | (cases h; rfl) | cases h

/-- A row that is read, by whatever name. -/
theorem OB.en {id : Nat} {E : Nat} {t : Ty} {xs : List t.den} (h : OB g H w ok id (H id)) (hvw : (H id).vw = .row E t xs) (hok : ∀ k, ok k → ok' k) (hid : ∀ k, owned g H id = some k → ok' k) :
    En w ok' (.sl E t) xs [g id] := by
  cases e : H id with
  | gone => rw [e] at hvw; cases hvw
  | box T ls => rw [e] at hvw; cases hvw
  | row E' t' xs' =>
    rw [e] at hvw h; cases hvw
    exact RowO.en h hok fun k hk => hid k (by simp [owned, e, hk])
  | fr E' t' xs' =>
    rw [e] at hvw h; cases hvw
    exact En.mono (t := .sl E t) (fun k hk => ⟨hok k hk, rfl⟩) h
  | fbx T ls => rw [e] at hvw; cases hvw
  | clo f ls => rw [e] at hvw; cases hvw

/-- The beginning of a row. -/
theorem En.take_ {E : Nat} {t : Ty} {xs : List t.den} {A : Option Addr} {m c n : Nat} (h : En w ok (.sl E t) xs [.slice A m c]) (hn : n ≤ m) : En w ok (.sl E t) (xs.take n) [.slice A n c] := by
  obtain ⟨A', c', hv, hc, hr⟩ := h
  simp only [List.cons.injEq, Value.slice.injEq, and_true] at hv
  obtain ⟨rfl, hm, rfl⟩ := hv
  have hm' : m = xs.length := hm
  have hlen : (xs.take n).length = n := by rw [List.length_take]; omega
  refine ⟨A, c, by rw [show List.length (α := t.den) (xs.take n) = n from hlen], ?_, fun i hi => ?_⟩
  · have : xs.length ≤ c := hc
    show (xs.take n).length ≤ c
    omega
  · have hi' : i < xs.length := by have : i < (xs.take n).length := hi; omega
    obtain ⟨k, o, cs, h1, h2, h3, h4⟩ := hr i hi'
    refine ⟨k, o, cs, h1, h2, ?_, h4⟩
    have : (xs.take n)[i]'hi = xs[i]'hi' := by simp
    rw [this]; exact h3

/-- A view of a row of the call's own. -/
theorem cut_en {E id n : Nat} {t : Ty} {xs : List t.den} {v : Value} (hg : En w ok' (.sl E t) xs [g id]) (hs : shO (H id) = some (false, t, xs.length)) (hl : LR g H w ok (.cut id n) v) :
    En w ok' (.sl E t) (xs.take n) [v] := by
  obtain ⟨hn, A, c, h1, h2⟩ := hl.2 t xs.length hs
  rw [h1] at hg
  rw [h2]
  exact hg.take_ hn

theorem En_cut {E : Nat} {t : Ty} {xs : List t.den} {A : Option Addr} {n c : Nat} (h : En w ok (.sl E t) xs [.slice A n c]) {l h' : Nat} (h1 : l ≤ h') (h2 : h' ≤ xs.length) :
    En w ok (.sl E t) ((xs.take h').drop l) [.slice (if c = l then A else A.map (·.add (l * t.sz))) (h' - l) (c - l)] := by
  obtain ⟨A', c', he, hc, hr⟩ := h
  simp only [List.cons.injEq, Value.slice.injEq, and_true] at he
  obtain ⟨rfl, rfl, rfl⟩ := he
  have hlen : ((xs.take h').drop l).length = h' - l := by simp; omega
  refine ⟨_, c - l, by rw [hlen], by rw [hlen]; have : xs.length ≤ c := hc; omega, fun i hi => ?_⟩
  rw [hlen] at hi
  have hi' : l + i < xs.length := by omega
  obtain ⟨k, o, cs, hA, hok, hen, hcell⟩ := hr (l + i) hi'
  have hcl : ¬ c = l := by have : xs.length ≤ c := hc; omega
  refine ⟨k, o + l * t.sz, cs, by rw [if_neg hcl, hA]; simp [add_at], hok, ?_, fun j hj => ?_⟩
  · have : ((xs.take h').drop l)[i]'(by rw [hlen]; exact hi) = xs[l + i] := by simp
    rw [this]; exact hen
  · have := hcell j hj
    rw [show o + l * t.sz + i * t.sz + j = o + (l + i) * t.sz + j by rw [Nat.add_mul]; omega]
    exact this

/-- A view of some of a row of the call's own. -/
theorem vi_en {E id lo hi : Nat} {t : Ty} {xs : List t.den} {v : Value} (hg : En w ok' (.sl E t) xs [g id]) (hs : shO (H id) = some (false, t, xs.length)) (hl : LR g H w ok (.vi id lo hi) v) :
    En w ok' (.sl E t) ((xs.take hi).drop lo) [v] := by
  obtain ⟨⟨hlo, hhi⟩, A, A', c, h1, h2, h3⟩ := hl.2 t xs.length hs
  rw [List.drop_take]
  obtain ⟨n, hn0⟩ : ∃ n, n = hi - lo := ⟨_, rfl⟩
  have hn : lo + n ≤ xs.length := by omega
  rw [← hn0] at h2 ⊢
  rw [h1] at hg
  rw [h2]
  obtain ⟨A0, c0, he, hc, hr⟩ := hg
  simp only [List.cons.injEq, Value.slice.injEq, and_true] at he
  obtain ⟨rfl, _, rfl⟩ := he
  have hc' : xs.length ≤ c := hc
  have hlen : ((xs.drop lo).take n).length = n := by rw [List.length_take, List.length_drop]; omega
  refine ⟨A', c - lo, by rw [hlen], by rw [hlen]; omega, fun i hi => ?_⟩
  rw [hlen] at hi
  have hi' : lo + i < xs.length := by omega
  obtain ⟨k, o, cs, hA, hok, hen, hcell⟩ := hr (lo + i) hi'
  subst hA
  obtain ⟨ad, ad', e1, e2, e3⟩ : ∃ ad ad' : Addr, some (⟨k, o, none⟩ : Addr) = some ad ∧ A' = some ad' ∧ ((c = lo ∧ ∃ j, j ≤ lo ∧ ad' = ad.add (j * t.sz)) ∨ ad' = ad.add (lo * t.sz)) := by
    rcases h3 with ⟨h, _⟩ | h
    · cases h
    · exact h
  cases e1
  have e4 : ad' = ⟨k, o + lo * t.sz, none⟩ := by
    rcases e3 with ⟨h, _⟩ | h
    · omega
    · rw [h, add_at]
  refine ⟨k, o + lo * t.sz, cs, by rw [e2, e4], hok, ?_, fun j hj => ?_⟩
  · have : ((xs.drop lo).take n)[i]'(by rw [hlen]; exact hi) = xs[lo + i] := by simp
    rw [this]; exact hen
  · have := hcell j hj
    rw [show o + lo * t.sz + i * t.sz + j = o + (lo + i) * t.sz + j by rw [Nat.add_mul]; omega]
    exact this

theorem castL_rfl {t : Ty} (xs : List t.den) : castL rfl xs = xs := rfl

/-- A value of a type, out of cells. -/
theorem pj_En {vw : Nat → Vw} (hvw : ∀ id E t xs, vw id = .row E t xs → (H id).vw = .row E t xs) (hobj : ∀ id, OB g H w ok id (H id)) (hok : ∀ k, ok k → ok' k) :
    ∀ {t : Ty} {ls r : List L} {x : t.den} {ids : List Nat} {cs : List Value}, pj vw t ls = some (x, r, ids) → All2 (LR g H w ok) ls cs →
      (∀ id ∈ ids, ∀ k, owned g H id = some k → ok' k) → ∃ c1 c2 l1, cs = c1 ++ c2 ∧ ls = l1 ++ r ∧ En w ok' t x c1 ∧ All2 (LR g H w ok) r c2
  | .int k, ls, r, x, ids, cs, h, ha, _ => by
    simp only [pj] at h
    split at h
    · rename_i k' n q
      split at h
      · rename_i hk; subst hk; cases h
        obtain ⟨b, q', rfl, hb, hq⟩ := ha.cons_l
        exact ⟨[b], q', [_], rfl, rfl, by rw [show b = _ from hb]; exact rfl, hq⟩
      · cases h
    · cases h
  | .bool, ls, r, x, ids, cs, h, ha, _ => by
    simp only [pj] at h
    split at h
    · cases h
      obtain ⟨b, q', rfl, hb, hq⟩ := ha.cons_l
      exact ⟨[b], q', [_], rfl, rfl, by rw [show b = _ from hb]; exact rfl, hq⟩
    · cases h
  | .str, ls, r, x, ids, cs, h, ha, _ => by
    simp only [pj] at h
    split at h
    · cases h
      obtain ⟨b, q', rfl, hb, hq⟩ := ha.cons_l
      exact ⟨[b], q', [_], rfl, rfl, by rw [show b = _ from hb]; exact rfl, hq⟩
    · cases h
  | .sl E t, ls, r, x, ids, cs, h, ha, hid => by
    simp only [pj] at h
    split at h
    · rename_i E' t' xs q
      split at h
      · rename_i ht; subst ht
        split at h
        · rename_i hE; subst hE; cases h
          obtain ⟨b, q', rfl, hb, hq⟩ := ha.cons_l
          exact ⟨[b], q', [_], rfl, rfl, En.mono (t := .sl E' t') (fun k hk => ⟨hok k hk, rfl⟩) hb, hq⟩
        · cases h
      · cases h
    · cases h
      obtain ⟨b, q', rfl, hb, hq⟩ := ha.cons_l
      exact ⟨[b], q', [_], rfl, rfl, ⟨none, 0, by rw [show b = _ from hb]; rfl, Nat.zero_le _, fun i hi => by simp at hi⟩, hq⟩
    · rename_i id q
      split at h
      · rename_i E' t' xs hv
        split at h
        · rename_i ht; subst ht
          split at h
          · rename_i hE; subst hE; cases h
            obtain ⟨b, q', rfl, hb, hq⟩ := ha.cons_l
            have hv' := hvw id E' t' xs hv
            have hbg : b = g id := hb.2 t' xs.length (sh_of_vw hv')
            refine ⟨[b], q', [_], rfl, rfl, ?_, hq⟩
            rw [hbg]
            exact OB.en (hobj id) hv' hok (hid id (by simp))
          · cases h
        · cases h
      · cases h
    · rename_i id n q
      split at h
      · rename_i E' t' xs hv
        split at h
        · rename_i ht; subst ht
          split at h
          · rename_i hE; subst hE; cases h
            obtain ⟨b, q', rfl, hb, hq⟩ := ha.cons_l
            have hv' := hvw id E' t' xs hv
            refine ⟨[b], q', [_], rfl, rfl, ?_, hq⟩
            exact cut_en (OB.en (hobj id) hv' hok (hid id (by simp))) (sh_of_vw hv') hb
          · cases h
        · cases h
      · cases h
    · rename_i id lo hi q
      split at h
      · rename_i E' t' xs hv
        split at h
        · rename_i ht; subst ht
          split at h
          · rename_i hE; subst hE; cases h
            obtain ⟨b, q', rfl, hb, hq⟩ := ha.cons_l
            have hv' := hvw id E' t' xs hv
            refine ⟨[b], q', [_], rfl, rfl, ?_, hq⟩
            exact vi_en (OB.en (hobj id) hv' hok (hid id (by simp))) (sh_of_vw hv') hb
          · cases h
        · cases h
      · cases h
    · cases h
  | .nil, ls, r, x, ids, cs, h, ha, _ => by
    simp only [pj] at h
    cases h
    exact ⟨[], cs, [], rfl, rfl, rfl, ha⟩
  | .cons a b, ls, r, x, ids, cs, h, ha, hid => by
    simp only [pj] at h
    split at h
    · rename_i x1 r1 i1 h1
      split at h
      · rename_i y r2 i2 h2
        cases h
        obtain ⟨c1, c2, l1, rfl, rfl, e1, a1⟩ := pj_En hvw hobj hok h1 ha (fun id hm => hid id (List.mem_append.2 (.inl hm)))
        obtain ⟨c3, c4, l2, rfl, rfl, e2, a2⟩ := pj_En hvw hobj hok h2 a1 (fun id hm => hid id (List.mem_append.2 (.inr hm)))
        exact ⟨c1 ++ c3, c4, l1 ++ l2, by simp, by simp, ⟨c1, c3, rfl, e1, e2⟩, a2⟩
      · cases h
    · cases h

theorem pjAll_En {vw : Nat → Vw} (hvw : ∀ id E t xs, vw id = .row E t xs → (H id).vw = .row E t xs) (hobj : ∀ id, OB g H w ok id (H id)) (hok : ∀ k, ok k → ok' k)
    {t : Ty} {ls : List L} {x : t.den} {ids : List Nat} {cs : List Value} (h : pjAll vw t ls = some (x, ids)) (ha : All2 (LR g H w ok) ls cs)
    (hid : ∀ id ∈ ids, ∀ k, owned g H id = some k → ok' k) : En w ok' t x cs := by
  unfold pjAll at h
  split at h
  · rename_i x' i' h1
    cases h
    obtain ⟨c1, c2, l1, rfl, _, e, a⟩ := pj_En hvw hobj hok h1 ha hid
    rw [All2.nil_l a, List.append_nil]; exact e
  · cases h

/-- Which rows are frozen so: those whose names stand in the cells. -/
theorem pj_ids {vw : Nat → Vw} : ∀ {t : Ty} {ls r : List L} {x : t.den} {ids : List Nat}, pj vw t ls = some (x, r, ids) → (∀ id ∈ ids, ∃ l ∈ ls, id ∈ l.ids) ∧ (∀ l ∈ r, l ∈ ls)
  | .int k, ls, r, x, ids, h => by
    simp only [pj] at h
    split at h
    · split at h
      · cases h; exact ⟨by simp, fun l hl => .tail _ hl⟩
      · cases h
    · cases h
  | .bool, ls, r, x, ids, h => by
    simp only [pj] at h
    split at h
    · cases h; exact ⟨by simp, fun l hl => .tail _ hl⟩
    · cases h
  | .str, ls, r, x, ids, h => by
    simp only [pj] at h
    split at h
    · cases h; exact ⟨by simp, fun l hl => .tail _ hl⟩
    · cases h
  | .sl E t, ls, r, x, ids, h => by
    simp only [pj] at h
    split at h
    · split at h
      · split at h
        · cases h; exact ⟨by simp, fun l hl => .tail _ hl⟩
        · cases h
      · cases h
    · cases h; exact ⟨by simp, fun l hl => .tail _ hl⟩
    · rename_i id q
      split at h
      · split at h
        · split at h
          · cases h; exact ⟨fun j hj => ⟨.own id, .head _, by simpa [L.ids] using hj⟩, fun l hl => .tail _ hl⟩
          · cases h
        · cases h
      · cases h
    · rename_i id n q
      split at h
      · split at h
        · split at h
          · cases h; exact ⟨fun j hj => ⟨.cut id n, .head _, by simpa [L.ids] using hj⟩, fun l hl => .tail _ hl⟩
          · cases h
        · cases h
      · cases h
    · rename_i id lo hi q
      split at h
      · split at h
        · split at h
          · cases h; exact ⟨fun j hj => ⟨.vi id lo hi, .head _, by simpa [L.ids] using hj⟩, fun l hl => .tail _ hl⟩
          · cases h
        · cases h
      · cases h
    · cases h
  | .nil, ls, r, x, ids, h => by
    simp only [pj] at h
    cases h; exact ⟨by simp, fun l hl => hl⟩
  | .cons a b, ls, r, x, ids, h => by
    simp only [pj] at h
    split at h
    · rename_i x1 r1 i1 h1
      split at h
      · rename_i y r2 i2 h2
        cases h
        obtain ⟨p1, q1⟩ := pj_ids h1
        obtain ⟨p2, q2⟩ := pj_ids h2
        refine ⟨fun id hm => ?_, fun l hl => q1 l (q2 l hl)⟩
        rcases List.mem_append.1 hm with hm | hm
        · exact p1 id hm
        · obtain ⟨l, hl, hi⟩ := p2 id hm
          exact ⟨l, q1 l hl, hi⟩
      · cases h
    · cases h

theorem pjAll_ids {vw : Nat → Vw} {t : Ty} {ls : List L} {x : t.den} {ids : List Nat} (h : pjAll vw t ls = some (x, ids)) : ∀ id ∈ ids, ∃ l ∈ ls, id ∈ l.ids := by
  unfold pjAll at h
  split at h
  · rename_i x' i' h1
    cases h
    exact (pj_ids h1).1
  · cases h

theorem castL_len {t t' : Ty} (h : t' = t) (xs : List t'.den) : (castL h xs).length = xs.length := by subst h; rfl

/-- What an address names. -/
theorem cellsAt_R {vw : Nat → Vw} (hvw : ∀ id, vw id = .no ∨ vw id = (H id).vw) (hobj : ∀ id, OB g H w ok id (H id)) {l : L} {v : Value} (hl : LR g H w ok l v) {ls : List L} {off : Nat} (h : cellsAt vw l = some (ls, off))
    (_hok : ∀ k, ok k → ok' k) :
    ∃ k base cs, v = .pointer (some ⟨k, base + off, none⟩) ∧ All2 (LR g H w ok) ls cs ∧ ∀ j u, cs[j]? = some u → w.cell? ⟨k, base + j, none⟩ = some u := by
  cases l with
  | ptr id o =>
    simp only [cellsAt] at h
    split at h
    · rename_i T ls' hv
      cases h
      have hv' : (H id).vw = .box T ls := by rcases hvw id with e | e <;> rw [e] at hv; cases hv; exact hv
      have key : ∃ k arr, g id = .pointer (some ⟨k, 0, none⟩) ∧ w.heap[k]? = some (.cells arr T (0, 0)) ∧ All2 (LR g H w ok) ls arr.toList ∧ shO (H id) = some (true, .nil, 0) := by
        have ho := hobj id
        cases e : H id with
        | box T' ls' =>
          rw [e] at hv' ho; cases hv'
          obtain ⟨k, arr, hg, hh, ha⟩ := ho
          exact ⟨k, arr, hg, hh, ha, rfl⟩
        | fbx T' ls' =>
          rw [e] at hv' ho; cases hv'
          obtain ⟨k, arr, hg, hh, _, ha⟩ := ho
          exact ⟨k, arr, hg, hh, ha, rfl⟩
        | _ => rw [e] at hv'; cases hv'
      obtain ⟨k, arr, hg, hh, ha, hs⟩ := key
      obtain ⟨k', hg', hv2⟩ := hl.2 (.nil, 0) hs
      rw [hg] at hg'; cases hg'
      refine ⟨k, 0, arr.toList, by rw [hv2, Nat.zero_add], ha, fun j u hj => ?_⟩
      simp only [World.cell?, hh, Option.isSome_none, Bool.false_eq_true, if_false, Nat.zero_add]
      simpa using hj
    · cases h
  | elo id i o =>
    simp only [cellsAt] at h
    split at h
    · rename_i E t xs hv
      cases h
      have hv' : (H id).vw = .row E t xs := by rcases hvw id with e | e <;> rw [e] at hv; cases hv; exact hv
      obtain ⟨hi, k, oo, m, c, hg, hv2⟩ := hl.2 t xs.length (sh_of_vw hv')
      have hen : En w (fun _ => True) (.sl E t) xs [g id] := OB.en (ok' := fun _ => True) (hobj id) hv' (fun _ _ => trivial) (fun _ _ => trivial)
      cases e : H id with
      | gone => rw [e] at hv'; cases hv'
      | box T ls => rw [e] at hv'; cases hv'
      | fbx T ls => rw [e] at hv'; cases hv'
      | clo f ls => rw [e] at hv'; cases hv'
      | row E' t' xs' =>
        have ho := hobj id
        rw [e] at hv' ho; cases hv'
        obtain ⟨k', o', c', cs, hg', he, hcell⟩ := RowO.at_ ho i hi
        rw [hg] at hg'; cases hg'
        refine ⟨k, oo + i * t.sz, cs, hv2, ?_, hcell⟩
        have : rdE t xs i = xs[i] := by simp [rdE, List.getD_eq_getElem?_getD, List.getElem?_eq_getElem hi]
        rw [this]; exact inj_LR he
      | fr E' t' xs' =>
        have ho := hobj id
        rw [e] at hv' ho; cases hv'
        obtain ⟨A, c', hg', _, hr⟩ := ho
        obtain ⟨k', o', cs, hA, _, he, hcell⟩ := hr i hi
        rw [hg] at hg'; simp only [List.cons.injEq, Value.slice.injEq, and_true] at hg'
        obtain ⟨hg1, _, _⟩ := hg'
        rw [← hg1] at hA; cases hA
        refine ⟨k, oo + i * t.sz, cs, hv2, ?_, fun j u hj => ?_⟩
        · have : rdE t xs i = xs[i] := by simp [rdE, List.getD_eq_getElem?_getD, List.getElem?_eq_getElem hi]
          rw [this]; exact inj_LR he
        · obtain ⟨hj', hu⟩ := List.getElem?_eq_some_iff.1 hj
          have := hcell j hj'
          rw [hu] at this; exact this
    · cases h
  | els E t xs i o =>
    simp only [cellsAt] at h
    cases h
    obtain ⟨hi, k, o', n, c, he, rfl⟩ := hl
    obtain ⟨A, c', hA, _, hr⟩ := he
    obtain ⟨k', o'', cs, hA', _, he', hcell⟩ := hr i hi
    simp only [List.cons.injEq, Value.slice.injEq, and_true] at hA
    obtain ⟨hA1, _, _⟩ := hA
    rw [← hA1] at hA'; cases hA'
    refine ⟨k, o' + i * t.sz, cs, rfl, ?_, fun j u hj => ?_⟩
    · have : rdE t xs i = xs[i] := by simp [rdE, List.getD_eq_getElem?_getD, List.getElem?_eq_getElem hi]
      rw [this]; exact inj_LR he'
    · obtain ⟨hj', hu⟩ := List.getElem?_eq_some_iff.1 hj
      have := hcell j hj'
      rw [hu] at this; exact this
  | _ => simp only [cellsAt] at h; cases h

theorem cut_R {ls r : List L} {cs : List Value} {off n : Nat} (ha : All2 (LR g H w ok) ls cs) (h : cut ls off n = some r) :
    r.length = n ∧ All2 (LR g H w ok) r ((cs.drop off).take n) ∧ ∀ l ∈ r, l ∈ ls := by
  unfold cut at h
  simp only at h
  split at h
  · rename_i hn
    cases h
    exact ⟨hn, (ha.drop off).take n, fun l hl => List.mem_of_mem_drop (List.mem_of_mem_take hl)⟩
  · cases h

theorem mkD_R {agg : Bool} {ls : List L} {d : D} {cs : List Value} (ha : All2 (LR g H w ok) ls cs) (h : mkD agg ls = some d) : DR g H w ok d (mkV agg cs) ∧ (∀ id ∈ d.ids, ∃ l ∈ ls, id ∈ l.ids) := by
  unfold mkD at h
  cases agg
  · simp only [Bool.false_eq_true, if_false] at h
    split at h
    · cases h
      obtain ⟨b, r, rfl, hb, hr⟩ := ha.cons_l
      refine ⟨by simpa [mkV, DR, D0R] using hb, fun id hid => ⟨_, .head _, by simpa [D.ids, D0.ids, D0.ls] using hid⟩⟩
    · cases h
  · simp only [if_true] at h
    cases h
    exact ⟨⟨cs.toArray, by simp [mkV], by simpa using ha⟩, fun id hid => by simpa [D.ids, D0.ids, D0.ls] using hid⟩

theorem take_flat {t : Ty} : ∀ (css : List (List Value)) (n : Nat), (∀ c ∈ css, c.length = t.sz) → (css.take n).flatten = css.flatten.take (n * t.sz)
  | [], n, _ => by simp
  | c :: css, 0, _ => by simp
  | c :: css, n + 1, hl => by
    have h0 := hl c (.head _)
    simp only [List.take_succ_cons, List.flatten_cons]
    rw [take_flat css n fun c h => hl c (.tail _ h), Nat.add_mul, Nat.one_mul, Nat.add_comm, ← h0, List.take_length_add_append]

theorem drop_flat {t : Ty} : ∀ (css : List (List Value)) (n : Nat), (∀ c ∈ css, c.length = t.sz) → (css.drop n).flatten = css.flatten.drop (n * t.sz)
  | [], n, _ => by simp
  | c :: css, 0, _ => by simp
  | c :: css, n + 1, hl => by
    have h0 := hl c (.head _)
    simp only [List.drop_succ_cons, List.flatten_cons]
    rw [drop_flat css n fun c h => hl c (.tail _ h), Nat.add_mul, Nat.one_mul, Nat.add_comm, ← h0, List.drop_length_add_append]

end Go.Proofs.Fr

/- A step that makes objects and freezes rows. -/
namespace Go.Proofs.Fr
open Go Go.RowKit

/-- What may be frozen. -/
def Ob.rb : Ob → Bool
  | .row .. | .fr .. | .box .. | .fbx .. => true
  | _ => false

theorem rb_row {o : Ob} (h : ∃ E t xs, o.vw = .row E t xs) : o.rb = true := by
  obtain ⟨E, t, xs, h⟩ := h
  cases o <;> first | rfl | (cases h; done)

theorem Ob.freeze_freeze (o : Ob) : o.freeze.freeze = o.freeze := by cases o <;> rfl

theorem frz_at : ∀ (ids : List Nat) (H : Nat → Ob) (id : Nat), (id ∈ ids → frz H ids id = (H id).freeze) ∧ (id ∉ ids → frz H ids id = H id)
  | [], _, _ => ⟨fun h => by simp at h, fun _ => rfl⟩
  | i :: r, H, id => by
    simp only [frz]
    have h := frz_at r (upd H i (H i).freeze) id
    constructor
    · intro hm
      by_cases hr : id ∈ r
      · rw [h.1 hr]
        by_cases e : id = i
        · subst e; rw [upd_same, Ob.freeze_freeze]
        · rw [upd_ne _ _ e]
      · rw [h.2 hr]
        have e : id = i := by simpa [hr] using hm
        subst e; rw [upd_same]
    · intro hm
      have hr : id ∉ r := fun h' => hm (.tail _ h')
      have e : id ≠ i := fun e => hm (e ▸ .head _)
      rw [h.2 hr, upd_ne _ _ e]

theorem setObs_at : ∀ (obs : List Ob) (H : Nat → Ob) (id0 id : Nat), (∀ i o, obs[i]? = some o → id = id0 + i → setObs H id0 obs id = o) ∧ ((id < id0 ∨ id0 + obs.length ≤ id) → setObs H id0 obs id = H id)
  | [], _, _, _ => ⟨fun i o h => by simp at h, fun _ => rfl⟩
  | o :: r, H, id0, id => by
    simp only [setObs]
    have h := setObs_at r (upd H id0 o) (id0 + 1) id
    constructor
    · intro i o' hi e
      cases i with
      | zero =>
        simp at hi; subst hi
        rw [h.2 (.inl (by omega))]
        have : id = id0 := by omega
        subst this; rw [upd_same]
      | succ i => exact h.1 i o' (by simpa using hi) (by omega)
    · intro hm
      simp only [List.length_cons] at hm
      rw [h.2 (by omega), upd_ne _ _ (by omega)]

variable {P : Program} {B : Bs} {nt : Nat} {fr : Nat → Prop} {s : S} {g : Nat → Value} {a : Act} {w w' : World}

def less (fr : Nat → Prop) (id0 : Nat) : Nat → Prop := fun j => fr j ∧ ¬ (id0 ≤ j ∧ j < id0 + 8)

theorem Rel.weak {fr' : Nat → Prop} (hr : Rel B nt fr s g a w) (h : ∀ j, fr' j → fr j) : Rel B nt fr' s g a w :=
  ⟨hr.slots, fun i id hi hf => hr.sold i id hi (h id hf), hr.objs, fun id j hj hf => hr.kold id j hj (h j hf), hr.disj, hr.base, hr.frm, fun id hf => hr.fresh id (h id hf), hr.size, hr.dfr, fun id hid => ⟨fun hf => (hr.kp id hid).1 (h id hf), (hr.kp id hid).2⟩⟩

/-- The places of the new objects. -/
def newG (g : Nat → Value) (id0 : Nat) (gs : List Value) : Nat → Value := fun id => if id0 ≤ id ∧ id < id0 + gs.length then gs.getD (id - id0) undef else g id

section
variable (hr : Rel B nt fr s g a w) (id0 : Nat) (obs : List Ob) (ids : List Nat) (gs : List Value) (hg : gs.length = obs.length) (h8 : obs.length ≤ 8)
    (hfr : ∀ j, id0 ≤ j → j < id0 + 8 → fr j) (hids : ∀ id ∈ ids, ¬ fr id) (hrow : ∀ id ∈ ids, (s.H id).rb = true) (hb : Below w.heap.size w w')
    (hblk : ∀ (i : Nat) v k, gs[i]? = some v → blkOf v = some k → w.heap.size ≤ k) (hdis : ∀ (i j : Nat) v u k, gs[i]? = some v → gs[j]? = some u → blkOf v = some k → blkOf u = some k → i = j)

theorem commit_new (hg : gs.length = obs.length) : ∀ id, ¬ (id0 ≤ id ∧ id < id0 + obs.length) → setObs (frz s.H ids) id0 obs id = frz s.H ids id ∧ newG g id0 gs id = g id := by
  intro id h
  refine ⟨(setObs_at obs _ id0 id).2 (by omega), ?_⟩
  unfold newG; rw [if_neg (by rw [hg]; exact h)]

theorem commit_at (hg : gs.length = obs.length) : ∀ id, (id0 ≤ id ∧ id < id0 + obs.length) → ∃ i o v, id = id0 + i ∧ obs[i]? = some o ∧ gs[i]? = some v ∧ setObs (frz s.H ids) id0 obs id = o ∧ newG g id0 gs id = v := by
  intro id h
  have h1 : id - id0 < obs.length := by omega
  have h2 : id - id0 < gs.length := by omega
  refine ⟨id - id0, obs[id - id0], gs[id - id0], by omega, List.getElem?_eq_getElem h1, List.getElem?_eq_getElem h2, (setObs_at obs _ id0 id).1 (id - id0) _ (List.getElem?_eq_getElem h1) (by omega), ?_⟩
  unfold newG; rw [if_pos (by rw [hg]; exact h)]
  simp [List.getD_eq_getElem?_getD, List.getElem?_eq_getElem h2]

theorem commit_own (hg : gs.length = obs.length) : ∀ id, ¬ (id0 ≤ id ∧ id < id0 + obs.length) → id ∈ ids → owned (newG g id0 gs) (setObs (frz s.H ids) id0 obs) id = none ∨ (owned (newG g id0 gs) (setObs (frz s.H ids) id0 obs) id = owned g s.H id) := by
  intro id hn hi
  obtain ⟨h1, h2⟩ := commit_new (g := g) (s := s) id0 obs ids gs hg id hn
  have h3 := (frz_at ids s.H id).1 hi
  simp only [owned, h1, h2, h3]
  cases s.H id <;> simp [Ob.freeze]

theorem owned_blk {g : Nat → Value} {H : Nat → Ob} {id k : Nat} {v : Value} (h : owned g H id = some k) (hv : g id = v) : blkOf v = some k := by
  simp only [owned, hv] at h
  split at h <;> first | exact h | cases h

theorem commit_ok (hr : Rel B nt fr s g a w) (id0 : Nat) (obs : List Ob) (ids : List Nat) (gs : List Value) (hg : gs.length = obs.length) (h8 : obs.length ≤ 8) (hfr : ∀ j, id0 ≤ j → j < id0 + 8 → fr j) (hrow : ∀ id ∈ ids, (s.H id).rb = true) (hb : Below w.heap.size w w') (hblk : ∀ (i : Nat) v k, gs[i]? = some v → blkOf v = some k → w.heap.size ≤ k) : (∀ k, okB B g s.H w k → okB B (newG g id0 gs) (setObs (frz s.H ids) id0 obs) w' k) ∧
    (∀ k, w.heap.size ≤ k → k < w'.heap.size → (∀ v ∈ gs, blkOf v ≠ some k) → okB B (newG g id0 gs) (setObs (frz s.H ids) id0 obs) w' k) ∧
    (∀ id ∈ ids, ∀ k, owned g s.H id = some k → okB B (newG g id0 gs) (setObs (frz s.H ids) id0 obs) w' k) ∧
    (∀ id, ¬ fr id → cmp g s.H (newG g id0 gs) (setObs (frz s.H ids) id0 obs) id) := by
  have old : ∀ q k, ¬ (id0 ≤ q ∧ q < id0 + obs.length) → owned (newG g id0 gs) (setObs (frz s.H ids) id0 obs) q = some k → owned g s.H q = some k := by
    intro q k hnq hq
    obtain ⟨e1, e2⟩ := commit_new (g := g) (s := s) id0 obs ids gs hg q hnq
    by_cases hqi : q ∈ ids
    · rcases commit_own (g := g) (s := s) id0 obs ids gs hg q hnq hqi with h | h
      · rw [h] at hq; cases hq
      · exact h ▸ hq
    · simpa only [owned, e1, e2, (frz_at ids s.H q).2 hqi] using hq
  have new : ∀ q k, (id0 ≤ q ∧ q < id0 + obs.length) → owned (newG g id0 gs) (setObs (frz s.H ids) id0 obs) q = some k → w.heap.size ≤ k ∧ ∃ v ∈ gs, blkOf v = some k := by
    intro q k hnq hq
    obtain ⟨p, o', u, rfl, ho', hu, h1', h2'⟩ := commit_at (g := g) (s := s) id0 obs ids gs hg q hnq
    have e2 := owned_blk hq h2'
    exact ⟨hblk p u k hu e2, u, List.mem_of_getElem? hu, e2⟩
  refine ⟨fun k hk => ⟨Nat.lt_of_lt_of_le hk.1 hb.size, fun q hq => ?_, hk.2.2⟩, fun k h1 h2 h3 => ⟨h2, fun q hq => ?_, B.al k (B.on k (Nat.le_trans hr.frm.size h1))⟩, fun id hi k hk' => ⟨Nat.lt_of_lt_of_le (OB.lt (hr.objs id) rfl hk') hb.size, fun q hq => ?_, B.al k (hr.base id k hk')⟩, fun id hf => ?_⟩
  · by_cases hnq : id0 ≤ q ∧ q < id0 + obs.length
    · have := (new q k hnq hq).1; have := hk.1; omega
    · exact hk.2.1 q (old q k hnq hq)
  · by_cases hnq : id0 ≤ q ∧ q < id0 + obs.length
    · obtain ⟨_, v, hv, e⟩ := new q k hnq hq
      exact h3 v hv e
    · have := OB.lt (hr.objs q) rfl (old q k hnq hq); omega
  · by_cases hnq : id0 ≤ q ∧ q < id0 + obs.length
    · have := (new q k hnq hq).1; have := OB.lt (hr.objs id) rfl hk'; omega
    · have hqid := hr.disj q id k (old q k hnq hq) hk'
      subst hqid
      obtain ⟨e1, e2⟩ := commit_new (g := g) (s := s) id0 obs ids gs hg q hnq
      simp only [owned, e1, (frz_at ids s.H q).1 hi] at hq
      have hv := hrow q hi
      cases e : s.H q <;> rw [e] at hv <;> first | (cases hv; done) | (simp [e, Ob.freeze] at hq)
  · have hn : ¬ (id0 ≤ id ∧ id < id0 + obs.length) := fun h => hf (hfr id h.1 (by omega))
    obtain ⟨h1, h2⟩ := commit_new (g := g) (s := s) id0 obs ids gs hg id hn
    refine .inr ⟨?_, h2⟩
    rw [h1]
    by_cases hi : id ∈ ids
    · rw [(frz_at ids s.H id).1 hi]; cases s.H id <;> rfl
    · rw [(frz_at ids s.H id).2 hi]

theorem Rel.commit (hr : Rel B nt fr s g a w) (id0 : Nat) (obs : List Ob) (ids : List Nat) (gs : List Value) (hg : gs.length = obs.length) (h8 : obs.length ≤ 8) (hfr : ∀ j, id0 ≤ j → j < id0 + 8 → fr j) (_hids : ∀ id ∈ ids, ¬ fr id) (hrow : ∀ id ∈ ids, (s.H id).rb = true) (hb : Below w.heap.size w w') (hblk : ∀ (i : Nat) v k, gs[i]? = some v → blkOf v = some k → w.heap.size ≤ k) (hdis : ∀ (i j : Nat) v u k, gs[i]? = some v → gs[j]? = some u → blkOf v = some k → blkOf u = some k → i = j)
    (hbox : ∀ o ∈ obs, ∀ j ∈ o.kids, ¬ less fr id0 j)
    (hob : ∀ i o, obs[i]? = some o → OB (newG g id0 gs) (setObs (frz s.H ids) id0 obs) w' (okB B (newG g id0 gs) (setObs (frz s.H ids) id0 obs) w') (id0 + i) o) :
    Rel B nt (less fr id0) { s with H := setObs (frz s.H ids) id0 obs, dt := ids ++ s.dt } (newG g id0 gs) a w' := by
  obtain ⟨ok1, ok2, ok3, ok4⟩ := commit_ok hr id0 obs ids gs hg h8 hfr hrow hb hblk
  have hin : ∀ id, (id0 ≤ id ∧ id < id0 + obs.length) → fr id := fun id h => hfr id h.1 (by omega)
  have hnew := commit_new (g := g) (s := s) id0 obs ids gs hg
  have hat := commit_at (g := g) (s := s) id0 obs ids gs hg
  have hown' := commit_own (g := g) (s := s) id0 obs ids gs hg
  refine Rel.step hr (fun id => id ∈ ids ∨ (id0 ≤ id ∧ id < id0 + obs.length)) rfl (fun id h => h.1) ?_ (fun id _ hf => ok4 id hf) ?_ ?_ ?_ hb.os hb.tape hb.output hb.size ?_ ?_ ?_
  · intro id ht
    have hn : ¬ (id0 ≤ id ∧ id < id0 + obs.length) := fun h => ht (.inr h)
    obtain ⟨h1, h2⟩ := hnew id hn
    exact ⟨h1.trans ((frz_at ids s.H id).2 fun h => ht (.inl h)), h2⟩
  · intro id k ht hk
    by_cases hn : id0 ≤ id ∧ id < id0 + obs.length
    · obtain ⟨i, o, v, rfl, ho, hv, h1, h2⟩ := hat id hn
      exact .inl (hblk i v k hv (owned_blk hk h2))
    · have hi : id ∈ ids := ht.resolve_right hn
      rcases hown' id hn hi with h | h
      · have hk' := hk; rw [show owned _ _ id = none from h] at hk'; cases hk'
      · exact .inr ⟨id, .inl hi, h ▸ hk⟩
  · intro i j k hi hj hik hjk
    by_cases hni : id0 ≤ i ∧ i < id0 + obs.length <;> by_cases hnj : id0 ≤ j ∧ j < id0 + obs.length
    · obtain ⟨p, o, v, rfl, ho, hv, h1, h2⟩ := hat i hni
      obtain ⟨q, o', u, rfl, ho', hu, h1', h2'⟩ := hat j hnj
      rw [hdis p q v u k hv hu (owned_blk hik h2) (owned_blk hjk h2')]
    · exfalso
      obtain ⟨p, o, v, rfl, ho, hv, h1, h2⟩ := hat i hni
      have e1 := owned_blk hik h2
      rcases hown' j hnj (hj.resolve_right hnj) with h | h
      · rw [show owned _ _ j = none from h] at hjk; cases hjk
      · have := OB.lt (hr.objs j) rfl (h ▸ hjk); have := hblk p v k hv e1; omega
    · exfalso
      obtain ⟨p, o, v, rfl, ho, hv, h1, h2⟩ := hat j hnj
      have e1 := owned_blk hjk h2
      rcases hown' i hni (hi.resolve_right hni) with h | h
      · rw [show owned _ _ i = none from h] at hik; cases hik
      · have := OB.lt (hr.objs i) rfl (h ▸ hik); have := hblk p v k hv e1; omega
    · rcases hown' i hni (hi.resolve_right hni) with h | h
      · rw [show owned _ _ i = none from h] at hik; cases hik
      · rcases hown' j hnj (hj.resolve_right hnj) with h' | h'
        · rw [show owned _ _ j = none from h'] at hjk; cases hjk
        · exact hr.disj i j k (h ▸ hik) (h' ▸ hjk)
  · intro k hk _; exact hb.block k hk
  · intro hk hcm id ht
    by_cases hn : id0 ≤ id ∧ id < id0 + obs.length
    · obtain ⟨i, o, v, rfl, ho, hv, h1, h2⟩ := hat id hn
      show OB _ _ _ _ _ (setObs (frz s.H ids) id0 obs (id0 + i))
      rw [h1]
      exact hob i o ho
    · obtain ⟨h1, h2⟩ := hnew id hn
      have hi : id ∈ ids := ht.resolve_right hn
      have h3 := (frz_at ids s.H id).1 hi
      have hv := hrow id hi
      have ho := hr.objs id
      have hkk := ok3 id hi
      show OB _ _ _ _ id (setObs (frz s.H ids) id0 obs id)
      rw [h1, h3]
      cases e : s.H id with
      | gone => trivial
      | box T ls =>
        rw [e] at ho
        obtain ⟨q, arr, hg', hh, ha⟩ := ho
        have hoq : owned g s.H id = some q := by simp [owned, e, hg', blkOf]
        refine ⟨q, arr, h2.trans hg', (hb.block q (OB.lt (hr.objs id) rfl hoq)).trans hh, hkk q hoq, ha.mono_mem fun l v hl hlr => LR.mono hk (fun j hj => hcm j (hr.kold id j ?_)) hlr⟩
        rw [e]; exact List.mem_flatMap.2 ⟨l, hl, hj⟩
      | fbx T ls =>
        rw [e] at ho
        obtain ⟨q, arr, hg', hh, hq, ha⟩ := ho
        refine ⟨q, arr, h2.trans hg', (hk q hq).2.trans hh, (hk q hq).1, ha.mono_mem fun l v hl hlr => LR.mono hk (fun j hj => hcm j (hr.kold id j ?_)) hlr⟩
        rw [e]; exact List.mem_flatMap.2 ⟨l, hl, hj⟩
      | clo f ls => rw [e] at hv; cases hv
      | row E t xs =>
        rw [e] at ho
        show En w' _ (.sl E t) xs [newG g id0 gs id]
        rw [h2]
        exact En.mono (t := .sl E t) (ok := fun k => okB B g s.H w k ∨ owned g s.H id = some k) (fun k hk' => by
          rcases hk' with hk' | hk'
          · exact hk k hk'
          · exact ⟨hkk k hk', hb.block k (OB.lt (hr.objs id) rfl hk')⟩) (RowO.en ho (fun _ => .inl) fun k hk' => .inr (by simpa [owned, e] using hk'))
      | fr E t xs =>
        rw [e] at ho
        show En w' _ (.sl E t) xs [newG g id0 gs id]
        rw [h2]
        exact En.mono (t := .sl E t) hk ho
  · intro id ht j hj0
    have hj : j ∈ (setObs (frz s.H ids) id0 obs id).kids := hj0
    by_cases hn : id0 ≤ id ∧ id < id0 + obs.length
    · obtain ⟨i, o, v, rfl, ho, hv, h1, h2⟩ := hat id hn
      rw [show (setObs (frz s.H ids) id0 obs) (id0 + i) = o from h1] at hj
      exact hbox o (List.mem_of_getElem? ho) j hj
    · obtain ⟨h1, h2⟩ := hnew id hn
      have hi : id ∈ ids := ht.resolve_right hn
      have h3 := (frz_at ids s.H id).1 hi
      rw [show (setObs (frz s.H ids) id0 obs) id = (s.H id).freeze from h1.trans h3] at hj
      intro hf
      refine hr.kold id j ?_ hf.1
      cases e : s.H id <;> rw [e] at hj <;> exact hj
  · intro id hf
    have hn : ¬ (id0 ≤ id ∧ id < id0 + obs.length) := fun h => hf.2 ⟨h.1, by omega⟩
    obtain ⟨h1, h2⟩ := hnew id hn
    show setObs (frz s.H ids) id0 obs id = _
    have hg := hr.fresh id hf.1
    rw [h1]
    by_cases hi : id ∈ ids
    · rw [(frz_at ids s.H id).1 hi, hg]; rfl
    · rw [(frz_at ids s.H id).2 hi, hg]
end

end Go.Proofs.Fr

/- Each operation does what its plain form says: those that neither make nor write. -/
namespace Go.Proofs.Fr
open Go Go.RowKit

variable {P : Program} {B : Bs} {nt : Nat} {fr : Nat → Prop} {s : S} {g : Nat → Value} {a : Act} {w w' : World} {R : Type}

/-- What an operation does: a value, objects made, rows frozen. -/
def Eff (P : Program) (B : Bs) (nt : Nat) (fr : Nat → Prop) (id0 : Nat) (s : S) (a : Act) (w : World) (o : Oper) (d : D) (obs : List Ob) (ids : List Nat) : Prop :=
  ∀ (next : Act → World → Prop) (Q : Exit → Act → World → Prop), (∀ g' a' w', Rel B nt (less fr id0) (s.commit o.dst id0 d obs ids) g' a' w' → next a' w') → o.wp P a w next Q

theorem eff_val {o : Oper} {id0 : Nat} {d : D} {obs : List Ob} {ids : List Nat} {v : Value} {g' : Nat → Value} (hd : dstOk nt o.dst = true)
    (hrun : (execOp a.eval o).run P w = .ok (.value v) w') (hr : Rel B nt (less fr id0) { s with H := setObs (frz s.H ids) id0 obs, dt := ids ++ s.dt } g' a w')
    (hv : DR g' (setObs (frz s.H ids) id0 obs) w' (okB B g' (setObs (frz s.H ids) id0 obs) w') d v) (hi : ∀ id ∈ d.ids, ¬ less fr id0 id) : Eff P B nt fr id0 s a w o d obs ids := by
  intro next Q hn
  unfold Oper.wp
  rw [hrun]
  have := hr.put_ hd hv hi
  refine hn g' _ _ ?_
  have e : s.commit o.dst id0 d obs ids = ({ s with H := setObs (frz s.H ids) id0 obs, dt := ids ++ s.dt } : S).put o.dst d := by
    unfold S.commit S.put
    cases o.dst <;> rfl
  rw [e]; exact this

theorem eff_pure {o : Oper} {id0 : Nat} {d : D} {v : Value} (hd : dstOk nt o.dst = true) (hr : Rel B nt fr s g a w)
    (hrun : (execOp a.eval o).run P w = .ok (.value v) w) (hv : DR g s.H w (okB B g s.H w) d v) (hi : ∀ id ∈ d.ids, ¬ fr id) : Eff P B nt fr id0 s a w o d [] [] :=
  eff_val (g' := g) hd hrun (hr.weak fun _ h => h.1) hv fun id h hl => hi id h hl.1

theorem lit_LR {g : Nat → Value} {H : Nat → Ob} {ok : Nat → Prop} {v : Value} {l : L} (h : litL v = some l) : LR g H w ok l v ∧ l.ids = [] ∧ l.solid = true := by
  unfold litL at h
  split at h <;> cases h <;> exact ⟨rfl, rfl, rfl⟩

theorem lits_LR {g : Nat → Value} {H : Nat → Ob} {ok : Nat → Prop} : ∀ {vs : List Value} {ls : List L}, lits vs = some ls → All2 (LR g H w ok) ls vs ∧ (∀ l ∈ ls, l.ids = [])
  | [], ls, h => by simp only [lits] at h; cases h; exact ⟨trivial, by simp⟩
  | v :: vs, ls, h => by
    simp only [lits] at h
    split at h
    · rename_i l hl
      split at h
      · rename_i ls' hls
        cases h
        obtain ⟨h1, h2, _⟩ := lit_LR (g := g) (H := H) (w := w) (ok := ok) hl
        obtain ⟨h3, h4⟩ := lits_LR (vs := vs) hls
        exact ⟨⟨h1, h3⟩, fun l' hl' => by rcases List.mem_cons.1 hl' with rfl | h; exact h2; exact h4 l' h⟩
      · cases h
    · cases h

theorem mapM_lits : ∀ (vs : List Value), vs.mapM litL = lits vs
  | [] => rfl
  | v :: vs => by
    rw [List.mapM_cons, mapM_lits vs]
    simp only [lits]
    cases litL v with
    | none => rfl
    | some l => cases lits vs <;> rfl

theorem litD_R {g : Nat → Value} {H : Nat → Ob} {ok : Nat → Prop} (v : Value) : DR g H w ok (litD v) v ∧ (litD v).ids = [] := by
  unfold litD
  split
  · rename_i cs
    rw [mapM_lits]
    split
    · rename_i ls h
      obtain ⟨h1, h2⟩ := lits_LR (g := g) (H := H) (w := w) (ok := ok) h
      exact ⟨⟨cs, rfl, h1⟩, by simp only [D.ids, D0.ids, D0.ls, List.flatMap_eq_nil_iff]; exact h2⟩
    · exact ⟨trivial, rfl⟩
  · split
    · rename_i l h
      obtain ⟨h1, h2, _⟩ := lit_LR (g := g) (H := H) (w := w) (ok := ok) h
      exact ⟨h1, by simp [D.ids, D0.ids, D0.ls, h2]⟩
    · exact ⟨trivial, rfl⟩

theorem ev_R (hr : Rel B nt fr s g a w) (x : Operand) : DR g s.H w (okB B g s.H w) (evD s.e x) (a.eval x) ∧ ∀ id ∈ (evD s.e x).ids, ¬ fr id := by
  cases x with
  | tmp t => exact ⟨hr.slots t, hr.sold t⟩
  | const v => exact ⟨(litD_R v).1, by simp [evD, (litD_R (g := g) (H := s.H) (w := w) (ok := fun _ => True) v).2]⟩
  | global q => exact ⟨trivial, by simp [evD, D.ids, D0.ids, D0.ls, L.ids]⟩
  | func f => exact ⟨rfl, by simp [evD, D.ids, D0.ids, D0.ls, L.ids]⟩

section
variable {o : Oper} {T : Nat → List Sp} {id0 : Nat} {vw : Nat → Vw} {k : D → List Ob → List Nat → Option R} {r : R}

abbrev Goal (P : Program) (B : Bs) (nt : Nat) (fr : Nat → Prop) (id0 : Nat) (s : S) (a : Act) (w : World) (o : Oper) (k : D → List Ob → List Nat → Option R) (r : R) : Prop :=
  ∃ d obs ids, k d obs ids = some r ∧ Eff P B nt fr id0 s a w o d obs ids

theorem v_move (hr : Rel B nt fr s g a w) (hd : dstOk nt o.dst = true) {x : Operand} (ho : o.op = .move x ∨ o.op = .assign x) (hv : k (evD s.e x) [] [] = some r) : Goal P B nt fr id0 s a w o k r := by
  obtain ⟨h1, h2⟩ := ev_R hr x
  exact ⟨_, _, _, hv, eff_pure hd hr (v := a.eval x) (by rcases ho with ho | ho <;> simp [execOp, ho]) h1 h2⟩

theorem one_R {g : Nat → Value} {H : Nat → Ob} {ok : Nat → Prop} {l : L} {v : Value} (h : DR g H w ok (D.one l) v) : LR g H w ok l v := h

theorem v_pick (hr : Rel B nt fr s g a w) (hd : dstOk nt o.dst = true) {c x y : Operand} {b : Bool} (ho : o.op = .pick c x y) (hc : evD s.e c = .one (.bool b))
    (hv : pickD b (evD s.e x) (evD s.e y) (fun d => k d [] []) = some r) : Goal P B nt fr id0 s a w o k r := by
  obtain ⟨h1, _⟩ := ev_R hr c
  rw [hc] at h1
  have hcv : a.eval c = .bool b := h1
  obtain ⟨hx, ix⟩ := ev_R hr x
  obtain ⟨hy, iy⟩ := ev_R hr y
  have hrun : (execOp a.eval o).run P w = .ok (.value (if b = true then a.eval x else a.eval y)) w := by
    simp [execOp, ho, hcv, asBool]
  have plain : ∀ d, (d = if b = true then evD s.e x else evD s.e y) → k d [] [] = some r → Goal P B nt fr id0 s a w o k r := by
    intro d e hk
    refine ⟨d, [], [], hk, eff_pure hd hr hrun ?_ ?_⟩ <;> subst e <;> cases b <;> first | exact hx | exact hy | exact ix | exact iy
  have fin : ∀ (l l1 l2 : L), evD s.e x = .one l1 → evD s.e y = .one l2 → (LR g s.H w (okB B g s.H w) l (if b = true then a.eval x else a.eval y)) → l.ids = [] → k (.one l) [] [] = some r → Goal P B nt fr id0 s a w o k r := by
    intro l l1 l2 _ _ hl hi hk
    exact ⟨.one l, [], [], hk, eff_pure hd hr hrun hl (by simp [D.ids, D0.ids, D0.ls, hi])⟩
  unfold pickD at hv
  split at hv
  · rename_i k1 m k2 n e1 e2
    split at hv
    · rename_i hk; subst hk
      rw [e1] at hx; rw [e2] at hy
      refine fin _ _ _ e1 e2 ?_ rfl hv
      cases b <;> simp only [Bool.false_eq_true, if_false, if_true] <;> first | exact hx | exact hy
    · cases hv
  · rename_i m n e1 e2
    rw [e1] at hx; rw [e2] at hy
    refine fin _ _ _ e1 e2 ?_ rfl hv
    cases b <;> simp only [Bool.false_eq_true, if_false, if_true] <;> first | exact hx | exact hy
  · rename_i m n e1 e2
    rw [e1] at hx; rw [e2] at hy
    refine fin _ _ _ e1 e2 ?_ rfl hv
    cases b <;> simp only [Bool.false_eq_true, if_false, if_true] <;> first | exact hx | exact hy
  · cases b
    · exact plain (evD s.e y) (by simp) (by simpa using hv)
    · exact plain (evD s.e x) (by simp) (by simpa using hv)

theorem run_bin {op : BinOp} {xT yT : TypeId} {x y : Operand} (ho : o.op = .binOp op xT x y yT) (hg : (eqGuard op xT x y (a.eval x) (a.eval y)).run P w = .ok () w) {v : Value}
    (h : (binOp op xT (a.eval x) (a.eval y)).run P w = .ok v w) : (execOp a.eval o).run P w = .ok (.value v) w := by
  simp [execOp, ho, hg, h]

theorem one_ids {l : L} (h : l.ids = []) : ∀ id ∈ (D.one l).ids, ¬ fr id := by simp [D.ids, D0.ids, D0.ls, h]

def L.simple : L → Bool
  | .int .. | .bool _ | .str _ => true
  | _ => false
def valOf : L → Value
  | .int k n => .int k n
  | .bool b => .bool b
  | .str s => .string s
  | _ => undef
theorem simple_LR {g : Nat → Value} {H : Nat → Ob} {ok : Nat → Prop} {l : L} (h : l.simple = true) : LR g H w ok l (valOf l) ∧ l.ids = [] := by
  cases l <;> first | exact ⟨rfl, rfl⟩ | cases h

theorem run_intBin {op : BinOp} {xT : TypeId} {kk : IntKind} {m n : Int} {kl : L → Option R} (h : intBin op kk m n kl = some r) :
    ∃ l, l.simple = true ∧ (binOp op xT (.int kk m) (.int kk n)).run P w = .ok (valOf l) w ∧ kl l = some r := by
  cases op <;> simp only [intBin] at h
  case quo =>
    by_cases hb : n = 0
    · rw [if_pos hb] at h; cases h
    · rw [if_neg hb] at h
      exact ⟨_, rfl, by simp [binOp, Op.intDiv, hb, valOf], h⟩
  case rem =>
    by_cases hb : n = 0
    · rw [if_pos hb] at h; cases h
    · rw [if_neg hb] at h
      exact ⟨_, rfl, by simp [binOp, Op.intDiv, hb, valOf], h⟩
  all_goals first
    | (cases h; done)
    | (refine ⟨_, rfl, ?_, h⟩; simp [binOp, Op.intArith, valOf]; done)
    | (refine ⟨_, rfl, ?_, h⟩; simp [binOp, Op.intBits, ibits, valOf]; done)
    | (refine ⟨_, rfl, ?_, h⟩; simp only [binOp, Op.intCmp, valOf, Sem.run_pure, ne_eq, not_true_eq_false, if_false]; done)
    | (refine ⟨_, rfl, ?_, h⟩; simp only [binOp, Op.intCmp, valOf, Sem.run_pure, ne_eq, not_true_eq_false, if_false]; rfl)

theorem toList_eq (a b : ByteArray) : (a.toList == b.toList) = decide (a = b) := by
  have h : a.toList = b.toList ↔ a = b := by
    constructor
    · intro h
      rw [Go.ByteArray.toList_eq, Go.ByteArray.toList_eq] at h
      cases a; cases b
      simp at h
      rw [h]
    · intro h; rw [h]
  by_cases e : a = b
  · subst e; simp
  · have : ¬ a.toList = b.toList := fun h' => e (h.1 h')
    simp [e, this]

theorem run_strBin {op : BinOp} {xT : TypeId} {m n : ByteArray} {kl : L → Option R} (h : strBin op m n kl = some r) :
    ∃ l, l.simple = true ∧ (binOp op xT (.string m) (.string n)).run P w = .ok (valOf l) w ∧ kl l = some r := by
  cases op <;> simp only [strBin] at h
  case add =>
    by_cases hb : m.size + n.size ≤ maxBytes
    · rw [if_pos hb] at h
      refine ⟨_, rfl, ?_, h⟩
      have hm : IntKind.i64.max = 9223372036854775807 := by decide
      have : ¬ (((m.size + n.size : Nat) : Int) > IntKind.i64.max) := by rw [hm]; unfold maxBytes at hb; omega
      simp only [binOp, Op.stringOp, valOf, this, if_false, Sem.run_pure]
    · rw [if_neg hb] at h; cases h
  case eql => exact ⟨_, rfl, by simp only [binOp, Op.stringOp, valOf, Sem.run_pure, toList_eq], h⟩
  case neq => exact ⟨_, rfl, by simp only [binOp, Op.stringOp, valOf, Sem.run_pure, toList_eq], h⟩
  case lss => exact ⟨_, rfl, by simp only [binOp, Op.stringOp, valOf, Sem.run_pure], h⟩
  all_goals cases h

theorem run_boolEq {xT : TypeId} (hu : P.underlying xT = some .bool) (m n : Bool) : (Op.equal xT (.bool m) (.bool n)).run P w = .ok (m == n) w := by
  unfold Op.equal Op.maxDepth
  rw [show (10000 : Nat) = 9999 + 1 from rfl, Op.equalIn]
  simp only [Sem.run_bind, run_underlying hu, Result.andThen_ok, Sem.run_pure]

theorem run_part {T : TypeId} {ti : TI} (ht : tinfo P T = some ti) {cs : Array Value} {off : Nat} (hl : ((cs.toList.drop off).take (if isAggD ti.desc then ti.size else 1)).length = if isAggD ti.desc then ti.size else 1) :
    (part T cs off).run P w = .ok (mkV (isAggD ti.desc) ((cs.toList.drop off).take (if isAggD ti.desc then ti.size else 1))) w := by
  simp only [part, Sem.run_bind, run_isAgg (tinfo_facts ht).1, Result.andThen_ok]
  cases hb : isAggD ti.desc
  · simp only [hb, Bool.false_eq_true, if_false] at hl ⊢
    obtain ⟨c, hc⟩ := List.length_eq_one_iff.1 hl
    have : cs[off]? = some c := by
      have := congrArg (·[0]?) hc
      simpa [List.getElem?_take_of_lt, List.getElem?_drop] using this
    simp [this, mkV, hc]
  · simp only [if_true, mkV]
    simp only [Sem.run_bind, run_sizeOf ht, Result.andThen_ok, Sem.run_pure]
    congr 3
    apply Array.ext'
    simp

theorem run_eqIs {g : Nat → Value} {H : Nat → Ob} {ok : Nat → Prop} {d' : Nat} {el : TypeId} {ti : TI} (hti : tinfo P el = some ti) {c : Nat} (hcc : c = ti.size) {eqf : TypeId → List L → List L → Option Bool} {xs ys : List L} {cx cy : List Value}
    (hx : All2 (LR g H w ok) xs cx) (hy : All2 (LR g H w ok) ys cy)
    (hE : ∀ q1 q2 p, eqf el q1 q2 = some p → ∀ c1 c2, All2 (LR g H w ok) q1 c1 → All2 (LR g H w ok) q2 c2 → (Op.equalIn d' el (mkV (isAggD ti.desc) c1) (mkV (isAggD ti.desc) c2)).run P w = .ok p w) :
    ∀ (is : List Nat) (b : Bool), eqIs P eqf el is xs ys = some b → (Op.eqItems d' el c cx.toArray cy.toArray is).run P w = .ok b w := by
  subst hcc
  intro is
  induction is with
  | nil => intro b h; simp only [eqIs, Option.some.injEq] at h; subst h; simp [Op.eqItems]
  | cons i is ih =>
    intro b h
    simp only [eqIs, hti] at h
    split at h
    · rename_i q1 q2 hq1 hq2
      split at h
      · rename_i p q hp hq
        cases h
        obtain ⟨hl1, hr1, _⟩ := cut_R hx hq1
        obtain ⟨hl2, hr2, _⟩ := cut_R hy hq2
        have hlen1 : ((cx.drop (i * ti.size)).take (if isAggD ti.desc then ti.size else 1)).length = if isAggD ti.desc then ti.size else 1 := by rw [← hr1.len, hl1]
        have hlen2 : ((cy.drop (i * ti.size)).take (if isAggD ti.desc then ti.size else 1)).length = if isAggD ti.desc then ti.size else 1 := by rw [← hr2.len, hl2]
        have hE := hE q1 q2 p hp _ _ hr1 hr2
        have hP1 := run_part (P := P) (w := w) hti (cs := cx.toArray) (off := i * ti.size) (by simpa using hlen1)
        have hP2 := run_part (P := P) (w := w) hti (cs := cy.toArray) (off := i * ti.size) (by simpa using hlen2)
        simp only [Op.eqItems]
        simp only [Sem.run_bind, hP1, hP2, Result.andThen_ok]
        simp only [hE, Result.andThen_ok]
        cases p
        · simp
        · simpa using ih q hq
      · cases h
    · cases h

theorem run_eqT {g : Nat → Value} {H : Nat → Ob} {ok : Nat → Prop} (e : Nat) : ∀ (d : Nat) (T : TypeId) (xs ys : List L) (b : Bool), eqT P d T xs ys = some b → ∀ (D : TypeDesc), P.underlying T = some D → ∀ cx cy, All2 (LR g H w ok) xs cx → All2 (LR g H w ok) ys cy →
    (Op.equalIn (d + e) T (mkV (isAggD D) cx) (mkV (isAggD D) cy)).run P w = .ok b w
  | 0, T, xs, ys, b, h, _, _, _, _, _, _ => by simp only [eqT] at h; cases h
  | d + 1, T, xs, ys, b, h, D, hu, cx, cy, hx, hy => by
    rw [show d + 1 + e = (d + e) + 1 by omega]
    simp only [eqT] at h
    split at h
    · rename_i k0 k m k' n hT
      rw [hu] at hT; cases hT
      split at h
      · rename_i hk; subst hk
        cases h
        match cx, cy, hx, hy with
        | [c], [c'], hx, hy =>
          have e1 : c = .int k m := hx.1
          have e2 : c' = .int k n := hy.1
          subst e1; subst e2
          have h3 := run_equalIn_int (P := P) w (d + e) T k k0 m n hu
          rw [show (m == n) = decide (m = n) from rfl] at h3
          exact h3
      · cases h
    · rename_i m n hT
      rw [hu] at hT; cases hT
      cases h
      match cx, cy, hx, hy with
      | [c], [c'], hx, hy =>
        have e1 : c = .bool m := hx.1
        have e2 : c' = .bool n := hy.1
        subst e1; subst e2
        have h3 := run_equalIn_bool' (P := P) w (d + e) T m n hu
        simpa [mkV, isAggD] using h3
    · rename_i m n hT
      rw [hu] at hT; cases hT
      cases h
      match cx, cy, hx, hy with
      | [c], [c'], hx, hy =>
        have e1 : c = .string m := hx.1
        have e2 : c' = .string n := hy.1
        subst e1; subst e2
        have h3 := run_equalIn_string (P := P) w (d + e) T m n hu
        rw [toList_eq] at h3
        simpa [mkV, isAggD] using h3
    · rename_i fs hT
      rw [hu] at hT; cases hT
      split at h
      · rename_i hst
        have hfo : P.fieldsOf T = fs := by simp only [Program.fieldsOf, hu]
        have h3 := run_equalIn_struct (P := P) w (d + e) T cx.toArray cy.toArray (by rw [hfo]; exact hu) hst
        have hm : mkV (isAggD (.struct fs)) cx = .agg cx.toArray ∧ mkV (isAggD (.struct fs)) cy = .agg cy.toArray := ⟨rfl, rfl⟩
        rw [hm.1, hm.2, h3, hfo]
        clear h3 hm hfo hu
        generalize fs.toList = l at h
        induction l generalizing b with
        | nil => simp only [eqFs, Option.some.injEq] at h; subst h; simp [Op.eqFields]
        | cons f fs ih =>
          simp only [eqFs] at h
          split at h
          · cases h
          · rename_i hn
            split at h
            · cases h
            · rename_i ti hti
              split at h
              · rename_i q1 q2 hq1 hq2
                split at h
                · rename_i p q hp hq
                  cases h
                  obtain ⟨hl1, hr1, _⟩ := cut_R hx hq1
                  obtain ⟨hl2, hr2, _⟩ := cut_R hy hq2
                  have hlen1 : ((cx.drop f.offset).take (if isAggD ti.desc then ti.size else 1)).length = if isAggD ti.desc then ti.size else 1 := by rw [← hr1.len, hl1]
                  have hlen2 : ((cy.drop f.offset).take (if isAggD ti.desc then ti.size else 1)).length = if isAggD ti.desc then ti.size else 1 := by rw [← hr2.len, hl2]
                  have hE := run_eqT e d f.type q1 q2 p hp ti.desc (tinfo_facts hti).1 _ _ hr1 hr2
                  have hP1 := run_part (P := P) (w := w) hti (cs := cx.toArray) (off := f.offset) (by simpa using hlen1)
                  have hP2 := run_part (P := P) (w := w) hti (cs := cy.toArray) (off := f.offset) (by simpa using hlen2)
                  simp only [Op.eqFields]
                  rw [if_pos hn]
                  simp only [Sem.run_bind, hP1, hP2, Result.andThen_ok]
                  simp only [hE, Result.andThen_ok]
                  cases p
                  · simp
                  · simpa using ih q hq
                · cases h
              · cases h
      · cases h
    · rename_i n el hT
      rw [hu] at hT; cases hT
      split at h
      rotate_left
      · cases h
      rename_i ti0 hti0
      obtain ⟨_, i, hi, _, hsz, _⟩ := tinfo_facts hti0
      show (Op.equalIn (d + e + 1) T (.agg cx.toArray) (.agg cy.toArray)).run P w = .ok b w
      rw [run_equalIn_array w (d + e) cx.toArray cy.toArray hu hi]
      exact run_eqIs hti0 (by simp [Program.cellsOf, hi, hsz]) hx hy (fun q1 q2 p hp c1 c2 h1 h2 => run_eqT e d el q1 q2 p hp ti0.desc (tinfo_facts hti0).1 c1 c2 h1 h2) _ b h
    · cases h

theorem v_bin (hr : Rel B nt fr s g a w) (hd : dstOk nt o.dst = true) {op : BinOp} {xT yT : TypeId} {x y : Operand} (ho : o.op = .binOp op xT x y yT)
    (hv : binK P op xT (evD s.e x) (evD s.e y) (fun l => k (.one l) [] []) = some r) : Goal P B nt fr id0 s a w o k r := by
  obtain ⟨hx, _⟩ := ev_R hr x
  obtain ⟨hy, _⟩ := ev_R hr y
  have fin : ∀ (l : L), (eqGuard op xT x y (a.eval x) (a.eval y)).run P w = .ok () w → l.simple = true → (binOp op xT (a.eval x) (a.eval y)).run P w = .ok (valOf l) w → k (.one l) [] [] = some r → Goal P B nt fr id0 s a w o k r :=
    fun l hg hs hb hk => ⟨.one l, [], [], hk, eff_pure hd hr (run_bin ho hg hb) (simple_LR hs).1 (one_ids (simple_LR (g := g) (H := s.H) (w := w) (ok := fun _ => True) hs).2)⟩
  unfold binK at hv
  split at hv
  · rename_i kx m ky n e1 e2
    rw [e1] at hx; rw [e2] at hy
    have vx : a.eval x = .int kx m := hx
    have vy : a.eval y = .int ky n := hy
    have hg : (eqGuard op xT x y (a.eval x) (a.eval y)).run P w = .ok () w := by
      rw [vx, vy]; unfold eqGuard; cases op <;> simp
    rw [vx, vy] at fin
    rw [vx, vy] at hg
    split at hv
    · split at hv
      · cases hv
      · rename_i hb
        exact fin _ hg rfl (by simp [binOp, Op.shift, hb, valOf]) hv
    · split at hv
      · cases hv
      · rename_i hb
        exact fin _ hg rfl (by simp [binOp, Op.shift, hb, valOf]) hv
    · rename_i h1 h2
      split at hv
      · rename_i hk; subst hk
        obtain ⟨l, hs, hrun, hk⟩ := run_intBin (P := P) (w := w) (xT := xT) hv
        exact fin l hg hs hrun hk
      · cases hv
  · rename_i m n e1 e2
    rw [e1] at hx; rw [e2] at hy
    have vx : a.eval x = .string m := hx
    have vy : a.eval y = .string n := hy
    have hg : (eqGuard op xT x y (a.eval x) (a.eval y)).run P w = .ok () w := by
      rw [vx, vy]; unfold eqGuard; cases op <;> simp
    rw [vx, vy] at fin
    rw [vx, vy] at hg
    obtain ⟨l, hs, hrun, hk⟩ := run_strBin (P := P) (w := w) (xT := xT) hv
    exact fin l hg hs hrun hk
  · rename_i m n e1 e2
    rw [e1] at hx; rw [e2] at hy
    have vx : a.eval x = .bool m := hx
    have vy : a.eval y = .bool n := hy
    have hg : (eqGuard op xT x y (a.eval x) (a.eval y)).run P w = .ok () w := by
      rw [vx, vy]; unfold eqGuard; cases op <;> simp
    rw [vx, vy] at fin
    rw [vx, vy] at hg
    split at hv
    · rename_i hu
      exact fin _ hg rfl (by simp only [binOp, Sem.run_bind, run_boolEq hu, Result.andThen_ok, Sem.run_pure, valOf]) hv
    · rename_i hu
      exact fin _ hg rfl (by simp only [binOp, Sem.run_bind, run_boolEq hu, Result.andThen_ok, Sem.run_pure, valOf]) hv
    · cases hv
  · rename_i E t xs e1 e2
    rw [e1] at hx; rw [e2] at hy
    have vy : a.eval y = .slice none 0 0 := hy
    obtain ⟨A, c, hA, hc, hel⟩ : En w _ (.sl E t) xs [a.eval x] := hx
    have vx : a.eval x = .slice A xs.length c := by simpa using hA
    have hg : (eqGuard op xT x y (a.eval x) (a.eval y)).run P w = .ok () w := by
      rw [vx, vy]; unfold eqGuard; cases op <;> simp
    have hrun : ∀ e, P.underlying xT = some (.slice e) → (Op.equal xT (a.eval x) (a.eval y)).run P w = .ok A.isNone w := by
      intro e hu
      rw [vx, vy]
      unfold Op.equal Op.maxDepth
      rw [show (10000 : Nat) = 9999 + 1 from rfl, Op.equalIn]
      simp only [Sem.run_bind, run_underlying hu, Result.andThen_ok]
      cases A <;> rfl
    have hne : xs.length ≠ 0 → A.isNone = false := by
      intro h0
      obtain ⟨k1, o1, cs1, e3, _⟩ := hel 0 (by omega)
      rw [e3]; rfl
    have fin2 : ∀ (l : L) (b : Bool), (binOp op xT (a.eval x) (a.eval y)).run P w = .ok (.bool b) w → LR g s.H w (okB B g s.H w) l (.bool b) → l.ids = [] → k (.one l) [] [] = some r → Goal P B nt fr id0 s a w o k r :=
      fun l b hb hl hi hk => ⟨.one l, [], [], hk, eff_pure hd hr (run_bin ho hg hb) hl (one_ids hi)⟩
    split at hv
    · rename_i e hu
      have hb : (binOp .eql xT (a.eval x) (a.eval y)).run P w = .ok (.bool A.isNone) w := by
        rw [vx, vy] at hrun ⊢
        simp only [binOp, Sem.run_bind, hrun _ hu, Result.andThen_ok, Sem.run_pure]
      split at hv
      · exact fin2 .ub _ hb ⟨_, rfl⟩ rfl hv
      · rename_i h0
        exact fin2 (.bool false) _ hb (by rw [hne h0]; rfl) rfl hv
    · rename_i e hu
      have hb : (binOp .neq xT (a.eval x) (a.eval y)).run P w = .ok (.bool (!A.isNone)) w := by
        rw [vx, vy] at hrun ⊢
        simp only [binOp, Sem.run_bind, hrun _ hu, Result.andThen_ok, Sem.run_pure]
      split at hv
      · exact fin2 .ub _ hb ⟨_, rfl⟩ rfl hv
      · rename_i h0
        exact fin2 (.bool true) _ hb (by rw [hne h0]; rfl) rfl hv
    · cases hv
  · rename_i id off e1 e2
    rw [e1] at hx; rw [e2] at hy
    have vy : a.eval y = .pointer none := hy
    obtain ⟨⟨ad, vx⟩, _⟩ := one_R hx
    have hg : (eqGuard op xT x y (a.eval x) (a.eval y)).run P w = .ok () w := by
      rw [vx, vy]; unfold eqGuard; cases op <;> simp
    have hrun : ∀ e, P.underlying xT = some (.pointer e) → (Op.equal xT (a.eval x) (a.eval y)).run P w = .ok false w := by
      intro e hu
      rw [vx, vy]
      unfold Op.equal Op.maxDepth
      rw [show (10000 : Nat) = 9999 + 1 from rfl, Op.equalIn]
      simp only [Sem.run_bind, run_underlying hu, Result.andThen_ok]
      rfl
    split at hv
    · rename_i e hu
      refine fin (.bool false) hg rfl ?_ hv
      rw [vx, vy] at hrun ⊢
      simp only [binOp, Sem.run_bind, hrun _ hu, Result.andThen_ok, Sem.run_pure, valOf]
    · rename_i e hu
      refine fin (.bool true) hg rfl ?_ hv
      rw [vx, vy] at hrun ⊢
      simp only [binOp, Sem.run_bind, hrun _ hu, Result.andThen_ok, Sem.run_pure, valOf, Bool.not_false]
    · cases hv
  · rename_i e1 e2
    rw [e1] at hx; rw [e2] at hy
    have vx : a.eval x = .pointer none := hx
    have vy : a.eval y = .pointer none := hy
    have hg : (eqGuard op xT x y (a.eval x) (a.eval y)).run P w = .ok () w := by
      rw [vx, vy]; unfold eqGuard; cases op <;> simp
    have hrun : ∀ e, P.underlying xT = some (.pointer e) → (Op.equal xT (a.eval x) (a.eval y)).run P w = .ok true w := by
      intro e hu
      rw [vx, vy]
      unfold Op.equal Op.maxDepth
      rw [show (10000 : Nat) = 9999 + 1 from rfl, Op.equalIn]
      simp only [Sem.run_bind, run_underlying hu, Result.andThen_ok]
      rfl
    split at hv
    · rename_i e hu
      refine fin (.bool true) hg rfl ?_ hv
      rw [vx, vy] at hrun ⊢
      simp only [binOp, Sem.run_bind, hrun _ hu, Result.andThen_ok, Sem.run_pure, valOf]
    · rename_i e hu
      refine fin (.bool false) hg rfl ?_ hv
      rw [vx, vy] at hrun ⊢
      simp only [binOp, Sem.run_bind, hrun _ hu, Result.andThen_ok, Sem.run_pure, valOf, Bool.not_true]
    · cases hv
  · rename_i xs ys e1 e2
    rw [e1] at hx; rw [e2] at hy
    obtain ⟨cx, vx, hcx⟩ : ∃ cs, a.eval x = .agg cs ∧ All2 _ xs cs.toList := hx
    obtain ⟨cy, vy, hcy⟩ : ∃ cs, a.eval y = .agg cs ∧ All2 _ ys cs.toList := hy
    split at hv
    · rename_i fs hu
      split at hv
      · rename_i hgd
        have hg : (eqGuard op xT x y (a.eval x) (a.eval y)).run P w = .ok () w := by
          rw [vx, vy]; unfold eqGuard; cases op <;> simp [hgd]
        have hrun : ∀ b, eqT P 10 xT xs ys = some b → (Op.equal xT (.agg cx) (.agg cy)).run P w = .ok b w := fun b hb => by
          have := run_eqT (P := P) (w := w) (g := g) (H := s.H) 9990 10 xT xs ys b hb _ hu _ _ hcx hcy
          simpa [Op.equal, Op.maxDepth, mkV, isAggD] using this
        split at hv
        · rename_i b hb
          refine fin (.bool b) hg rfl ?_ hv
          rw [vx, vy]
          simp only [binOp, Sem.run_bind, hrun b hb, Result.andThen_ok, Sem.run_pure, valOf]
        · rename_i b hb
          refine fin (.bool !b) hg rfl ?_ hv
          rw [vx, vy]
          simp only [binOp, Sem.run_bind, hrun b hb, Result.andThen_ok, Sem.run_pure, valOf]
        · cases hv
      · cases hv
    · rename_i n0 e0 hu
      split at hv
      · rename_i hgd
        have hg : (eqGuard op xT x y (a.eval x) (a.eval y)).run P w = .ok () w := by
          rw [vx, vy]; unfold eqGuard; cases op <;> simp [hgd]
        have hrun : ∀ b, eqT P 10 xT xs ys = some b → (Op.equal xT (.agg cx) (.agg cy)).run P w = .ok b w := fun b hb => by
          have := run_eqT (P := P) (w := w) (g := g) (H := s.H) 9990 10 xT xs ys b hb _ hu _ _ hcx hcy
          simpa [Op.equal, Op.maxDepth, mkV, isAggD] using this
        split at hv
        · rename_i b hb
          refine fin (.bool b) hg rfl ?_ hv
          rw [vx, vy]
          simp only [binOp, Sem.run_bind, hrun b hb, Result.andThen_ok, Sem.run_pure, valOf]
        · rename_i b hb
          refine fin (.bool !b) hg rfl ?_ hv
          rw [vx, vy]
          simp only [binOp, Sem.run_bind, hrun b hb, Result.andThen_ok, Sem.run_pure, valOf]
        · cases hv
      · cases hv
    · cases hv
  · cases hv

theorem v_un (hr : Rel B nt fr s g a w) (hd : dstOk nt o.dst = true) {op : UnOp} {xT : TypeId} {x : Operand} (ho : o.op = .unOp op xT x)
    (hv : unK op (evD s.e x) (fun l => k (.one l) [] []) = some r) : Goal P B nt fr id0 s a w o k r := by
  obtain ⟨hx, _⟩ := ev_R hr x
  have fin : ∀ (l : L), l.simple = true → (Op.unary op (a.eval x)).run P w = .ok (valOf l) w → k (.one l) [] [] = some r → Goal P B nt fr id0 s a w o k r :=
    fun l hs hb hk => ⟨.one l, [], [], hk, eff_pure hd hr (by simp [execOp, ho, hb]) (simple_LR hs).1 (one_ids (simple_LR (g := g) (H := s.H) (w := w) (ok := fun _ => True) hs).2)⟩
  unfold unK at hv
  split at hv
  · rename_i kk n e
    rw [e] at hx
    rw [show a.eval x = .int kk n from hx] at fin
    exact fin _ rfl (by simp [Op.unary, Op.intArith, valOf]) hv
  · rename_i n e
    rw [e] at hx
    rw [show a.eval x = .bool n from hx] at fin
    exact fin _ rfl (by simp [Op.unary, valOf]) hv
  · rename_i kk n e
    rw [e] at hx
    rw [show a.eval x = .int kk n from hx] at fin
    exact fin _ rfl (by simp [Op.unary, Op.intBits, ibits, valOf]) hv
  · cases hv

end
end Go.Proofs.Fr

/- Each operation does what its plain form says: structs, addresses, cuts. -/
namespace Go.Proofs.Fr
open Go Go.RowKit

variable {P : Program} {B : Bs} {nt : Nat} {fr : Nat → Prop} {s : S} {g : Nat → Value} {a : Act} {w w' : World} {R : Type} {H : Nat → Ob} {ok : Nat → Prop}

theorem solid_one {l : L} {v : Value} (hs : l.solid = true) (h : LR g H w ok l v) : v.oneCell' = true := by
  cases l <;> first
    | (cases hs; done)
    | exact h.1
    | (rw [show v = _ from h]; rfl)
    | (rw [show v = _ from h.1]; rfl)
    | skip
  case row E t xs => exact En.one (t := .sl E t) h v (by simp)
  case els E t xs i off => obtain ⟨_, k, o, n, c, _, rfl⟩ := h; rfl
  case ptr id off => obtain ⟨⟨a, rfl⟩, _⟩ := h; rfl

theorem cells_one {v : Value} (h : v.oneCell' = true) : v.cells = #[v] := by cases v <;> first | rfl | cases h

theorem D0R_cells {d : D0} {v : Value} (hs : d.ls.all L.solid = true) (h : D0R g H w ok d v) : All2 (LR g H w ok) d.ls v.cells.toList := by
  cases d with
  | one l =>
    rw [cells_one (solid_one (by simpa [D0.ls] using hs) h)]
    exact ⟨h, trivial⟩
  | agg ls => obtain ⟨cs, rfl, hc⟩ := h; exact hc

theorem put_R (off : Nat) : ∀ {news : List L} {vals : List Value} (n : Nat) {ls : List L} {cells : List Value}, All2 (LR g H w ok) news vals → All2 (LR g H w ok) ls cells →
    All2 (LR g H w ok) ((news.zipIdx n).foldl (fun cs c => cs.set (off + c.2) c.1) ls) ((vals.zipIdx n).foldl (fun cs c => cs.set (off + c.2) c.1) cells)
  | [], [], _, _, _, _, h => h
  | [], _ :: _, _, _, _, h, _ => h.elim
  | _ :: _, [], _, _, _, h, _ => h.elim
  | x :: news, v :: vals, n, ls, cells, h, h' => by
    simp only [List.zipIdx_cons, List.foldl_cons]
    exact put_R off (n + 1) h.2 (h'.set (off + n) h.1)

theorem put_arr (off : Nat) : ∀ (l : List (Value × Nat)) (cells : Array Value), (l.foldl (fun cs (c : Value × Nat) => cs.setIfInBounds (off + c.2) c.1) cells).toList = l.foldl (fun cs c => cs.set (off + c.2) c.1) cells.toList
  | [], _ => rfl
  | x :: l, cells => by simp only [List.foldl_cons]; rw [put_arr off l]; simp

theorem put_ids (off : Nat) : ∀ (news : List L) (n : Nat) (ls : List L), ∀ l ∈ ((news.zipIdx n).foldl (fun cs c => cs.set (off + c.2) c.1) ls), l ∈ news ∨ l ∈ ls
  | [], _, _, l, h => .inr h
  | x :: news, n, ls, l, h => by
    simp only [List.zipIdx_cons, List.foldl_cons] at h
    rcases put_ids off news (n + 1) _ l h with h | h
    · exact .inl (.tail _ h)
    · rcases List.mem_or_eq_of_mem_set h with h | h
      · exact .inr h
      · exact .inl (h ▸ .head _)

theorem put_len (off : Nat) : ∀ (news : List L) (n : Nat) (ls : List L), ((news.zipIdx n).foldl (fun cs c => cs.set (off + c.2) c.1) ls).length = ls.length
  | [], _, _ => rfl
  | x :: news, n, ls => by simp only [List.zipIdx_cons, List.foldl_cons]; rw [put_len off news (n + 1)]; simp

theorem fill_R {place : Nat → Option (Nat × Nat)} : ∀ {ps : List (Nat × D0)} {vs : List (Nat × Value)} {ls ls' : List L} {cells : Array Value},
    All2 (fun p v => p.1 = v.1 ∧ D0R g H w ok p.2 v.2) ps vs → All2 (LR g H w ok) ls cells.toList → fillL place ls ps = some ls' →
    ∃ cells', Instr.fill place cells vs = some cells' ∧ All2 (LR g H w ok) ls' cells'.toList ∧ ∀ l ∈ ls', l ∈ ls ∨ ∃ p ∈ ps, l ∈ p.2.ls
  | [], [], ls, ls', cells, _, h, e => by simp only [fillL] at e; cases e; exact ⟨cells, rfl, h, fun l hl => .inl hl⟩
  | [], _ :: _, _, _, _, h, _, _ => h.elim
  | _ :: _, [], _, _, _, h, _, _ => h.elim
  | (i, d) :: ps, (j, v) :: vs, ls, ls', cells, hp, h, e => by
    obtain ⟨⟨hij, hd⟩, hps⟩ := hp
    simp only at hij hd
    subst hij
    simp only [fillL] at e
    split at e
    · cases e
    · rename_i off size hpl
      split at e
      · cases e
      · rename_i hc
        simp only [Bool.or_eq_true, decide_eq_true_eq, Bool.not_eq_true', not_or, ne_eq, Decidable.not_not, Bool.not_eq_false] at hc
        obtain ⟨⟨h1, h2⟩, h3⟩ := hc
        have hdc := D0R_cells h3 hd
        have hlen : v.cells.size = d.ls.length := by rw [← Array.length_toList]; exact hdc.len.symm
        have hlen2 : cells.size = ls.length := by rw [← Array.length_toList]; exact h.len.symm
        have hput := put_R (g := g) (H := H) (w := w) (ok := ok) off 0 hdc h
        obtain ⟨cells', hf, ha, hi⟩ := fill_R (place := place) (ps := ps) (vs := vs) (ls := putAt ls off d.ls) (ls' := ls') (cells := v.cells.zipIdx.foldl (fun cs (c : Value × Nat) => cs.setIfInBounds (off + c.2) c.1) cells) hps (by
          rw [← Array.foldl_toList, put_arr, Array.toList_zipIdx]; exact hput) e
        refine ⟨cells', ?_, ha, fun l hl => ?_⟩
        · simp only [Instr.fill, hpl]
          rw [if_neg (by simp [hlen, hlen2, h1]; omega)]
          exact hf
        · rcases hi l hl with h' | ⟨p, hp, hl'⟩
          · rcases put_ids off d.ls 0 ls l h' with h'' | h''
            · exact .inr ⟨_, .head _, h''⟩
            · exact .inl h''
          · exact .inr ⟨p, .tail _ hp, hl'⟩

section
variable {o : Oper} {T : Nat → List Sp} {id0 : Nat} {acc : Nat} {k : D → List Ob → List Nat → Option R} {r : R}

theorem d0s_R {e : Nat → D} : ∀ {xs : List Operand} {ds : List D0}, d0s (xs.map (evD e)) = some ds → ds.length = xs.length ∧ ∀ i (h : i < xs.length) (h' : i < ds.length), evD e xs[i] = .v ds[i]
  | [], ds, h => by simp only [List.map_nil, d0s] at h; cases h; exact ⟨rfl, fun i h => by simp at h⟩
  | x :: xs, ds, h => by
    simp only [List.map_cons] at h
    cases ex : evD e x with
    | tup q => rw [ex] at h; simp only [d0s] at h; cases h
    | v d =>
      rw [ex] at h
      simp only [d0s] at h
      split at h
      · rename_i ds' hds
        cases h
        obtain ⟨h1, h2⟩ := d0s_R hds
        refine ⟨by simp [h1], fun i hi hi' => ?_⟩
        cases i with
        | zero => exact ex
        | succ i => exact h2 i (by simpa using hi) (by simpa using hi')
      · cases h

/-- The parts of a literal, and their values. -/
theorem parts_R (hr : Rel B nt fr s g a w) (parts : List (Nat × Operand)) {ps : List D0} (h : d0s ((parts.map (·.2)).map (evD s.e)) = some ps) :
    All2 (fun p v => p.1 = v.1 ∧ D0R g s.H w (okB B g s.H w) p.2 v.2) ((parts.map (·.1)).zip ps) (parts.map fun p => (p.1, a.eval p.2)) ∧ ∀ d ∈ ps, ∀ id ∈ d.ids, ¬ fr id := by
  obtain ⟨h1, h2⟩ := d0s_R h
  simp only [List.length_map] at h1
  refine ⟨All2.of_get (by simp [h1]) fun i hi hi' => ?_, fun d hd id hid => ?_⟩
  · simp only [List.length_map] at hi'
    have := h2 i (by simpa using hi') (by omega)
    simp only [List.getElem_map] at this
    simp only [List.getElem_zip, List.getElem_map, true_and]
    have hx := (ev_R hr (parts[i]).2).1
    rw [this] at hx
    exact hx
  · obtain ⟨i, hi, rfl⟩ := List.getElem_of_mem hd
    have := h2 i (by simpa [h1] using hi) hi
    simp only [List.getElem_map] at this
    have hx := (ev_R hr (parts[i]'(by omega)).2).2
    rw [this] at hx
    exact hx id hid

theorem v_build (hr : Rel B nt fr s g a w) (hd : dstOk nt o.dst = true) {T : TypeId} {parts : Array (Nat × Operand)} (ho : o.op = .build T parts) {ps : List D0}
    (hps : d0s ((parts.toList.map (·.2)).map (evD s.e)) = some ps) {ls : List L} (hl : builtL P T ((parts.toList.map (·.1)).zip ps) = some ls) (hv : k (.v (.agg ls)) [] [] = some r) : Goal P B nt fr id0 s a w o k r := by
  obtain ⟨hp, hi⟩ := parts_R hr parts.toList hps
  have hb : ∃ cells, P.built T (parts.map fun (i, x) => (i, a.eval x)).toList = some cells ∧ All2 (LR g s.H w (okB B g s.H w)) ls cells.toList ∧ ∀ l ∈ ls, ∀ id ∈ l.ids, ¬ fr id := by
    have key : ∀ (place : Nat → Option (Nat × Nat)) (z : Value) (zl : List L), lits z.cells.toList = some zl → fillL place zl ((parts.toList.map (·.1)).zip ps) = some ls →
        ∃ cells, Instr.fill place z.cells (parts.map fun (i, x) => (i, a.eval x)).toList = some cells ∧ All2 (LR g s.H w (okB B g s.H w)) ls cells.toList ∧ ∀ l ∈ ls, ∀ id ∈ l.ids, ¬ fr id := by
      intro place z zl hz hf
      obtain ⟨hz1, hz2⟩ := lits_LR (g := g) (H := s.H) (w := w) (ok := okB B g s.H w) hz
      obtain ⟨cells', h1, h2, h3⟩ := fill_R hp hz1 hf
      refine ⟨cells', by simpa using h1, h2, fun l hl id hid => ?_⟩
      rcases h3 l hl with h | ⟨p, hp', hl'⟩
      · rw [hz2 l h] at hid; cases hid
      · exact hi p.2 (List.of_mem_zip hp').2 id (by simp only [D0.ids, List.mem_flatMap]; exact ⟨l, hl', hid⟩)
    unfold builtL at hl
    unfold Program.built
    split at hl
    · rename_i it n e h1 h2
      rw [h1, h2]
      split at hl
      · rename_i z ie h3 h4
        simp only [h3, h4]
        split at hl
        · rename_i zl hz; exact key _ z zl hz hl
        · cases hl
      · cases hl
    · rename_i it fields h1 h2
      rw [h1, h2]
      split at hl
      · rename_i z places h3 h4
        simp only [h3, h4]
        split at hl
        · rename_i zl hz; exact key _ z zl hz hl
        · cases hl
      · cases hl
    · cases hl
  obtain ⟨cells, hb1, hb2, hb3⟩ := hb
  refine ⟨_, _, _, hv, eff_pure hd hr (v := .agg cells) ?_ ⟨cells, rfl, hb2⟩ ?_⟩
  · simp only [execOp, ho, Sem.run_bind, run_build w T _ cells hb1, Result.andThen_ok, Sem.run_pure]
  · simp only [D.ids, D0.ids, D0.ls, List.mem_flatMap]
    rintro id ⟨l, hl', hid⟩
    exact hb3 l hl' id hid

theorem vwl_or (acc : Nat → Bool) (H : Nat → Ob) (id : Nat) : (bif acc id then (H id).vw else .no) = .no ∨ (bif acc id then (H id).vw else .no) = (H id).vw := by
  cases acc id
  · exact .inl rfl
  · exact .inr rfl

theorem run_v {x : Operand} {o : Oper} {f : Value → Sem Value} {v : Value} (he : execOp a.eval o = (do pure (.value (← f (a.eval x))))) (h : (f (a.eval x)).run P w = .ok v w') : (execOp a.eval o).run P w = .ok (.value v) w' := by
  rw [he]; simp [h]

theorem cellsAt_ids {vw : Nat → Vw} (hvw : ∀ id, vw id = .no ∨ vw id = (s.H id).vw) (hr : Rel B nt fr s g a w) {l : L} {ls : List L} {off : Nat} (h : cellsAt vw l = some (ls, off)) : ∀ q ∈ ls, ∀ id ∈ q.ids, ¬ fr id := by
  cases l <;> simp only [cellsAt] at h
  case ptr id o =>
    split at h
    · rename_i T ls' hv
      cases h
      have hv' : (s.H id).vw = .box T ls := by rcases hvw id with e | e <;> rw [e] at hv; cases hv; exact hv
      intro q hq j hj
      refine hr.kold id j ?_
      cases e : s.H id with
      | box T' ls' => rw [e] at hv'; cases hv'; exact List.mem_flatMap.2 ⟨q, hq, hj⟩
      | fbx T' ls' => rw [e] at hv'; cases hv'; exact List.mem_flatMap.2 ⟨q, hq, hj⟩
      | _ => rw [e] at hv'; cases hv'
    · cases h
  case elo id i o =>
    split at h
    · cases h; intro q hq; rw [inj_ids _ _ q hq]; simp
    · cases h
  case els E t xs i o => cases h; intro q hq; rw [inj_ids _ _ q hq]; simp
  all_goals cases h

theorem v_load {vw : Nat → Vw} (hvw : ∀ id, vw id = .no ∨ vw id = (s.H id).vw) (hr : Rel B nt fr s g a w) (hd : dstOk nt o.dst = true) {T : TypeId} {x : Operand} (ho : o.op = .load T x) {l : L} (hx : evD s.e x = .one l)
    {ti : TI} (ht : tinfo P T = some ti) {ls q : List L} {off : Nat} (hc : cellsAt vw l = some (ls, off)) (hq : cut ls off (if isAggD ti.desc then ti.size else 1) = some q)
    {d : D} (hm : mkD (isAggD ti.desc) q = some d) (hv : k d [] [] = some r) : Goal P B nt fr id0 s a w o k r := by
  obtain ⟨h1, _⟩ := ev_R hr x
  rw [hx] at h1
  obtain ⟨kk, base, cs, hva, ha, hcell⟩ := cellsAt_R (ok' := fun _ => True) hvw hr.objs h1 hc (fun _ _ => trivial)
  obtain ⟨hl, hq2, hmem⟩ := cut_R ha hq
  obtain ⟨hD, hid⟩ := mkD_R hq2 hm
  have hlen : ((cs.drop off).take (if isAggD ti.desc then ti.size else 1)).length = if isAggD ti.desc then ti.size else 1 := by rw [← hq2.len, hl]
  refine ⟨d, [], [], hv, eff_pure hd hr (v := mkV (isAggD ti.desc) ((cs.drop off).take (if isAggD ti.desc then ti.size else 1))) ?_ hD ?_⟩
  · have hload := run_loadVar_cells (P := P) ht w kk (base + off) _ hlen (fun j u hj => by
      have hj' : cs[off + j]? = some u := by
        have hlt := (List.getElem?_eq_some_iff.1 hj).1
        rw [List.getElem?_take_of_lt (by simp only [List.length_take] at hlt; omega)] at hj
        simpa [List.getElem?_drop] using hj
      rw [Nat.add_assoc]; exact hcell _ _ hj')
    refine run_v (x := x) (f := Instr.loadAt T) (by simp [execOp, ho]) ?_
    simp only [Instr.loadAt, hva, Instr.sureAddr, Sem.run_bind, Sem.run_pure, Result.andThen_ok, hload]
  · intro id hi
    obtain ⟨l', hl', hi'⟩ := hid id hi
    exact cellsAt_ids hvw hr hc l' (hmem l' hl') id hi'

theorem runL_ids {t : Ty} {xs : List t.den} {i n : Nat} : ∀ l ∈ runL t xs i n, l.ids = [] := by
  intro l hl
  simp only [runL, List.mem_flatMap] at hl
  obtain ⟨j, _, h⟩ := hl
  exact inj_ids _ _ l h

theorem v_loadRun (hr : Rel B nt fr s g a w) (hd : dstOk nt o.dst = true) {T : TypeId} {x : Operand} (ho : o.op = .load T x) {E : Nat} {t : Ty} {xs : List t.den} {i : Nat} (hx : evD s.e x = .one (.els E t xs i 0))
    {ti : TI} (ht : tinfo P T = some ti) (hag : isAggD ti.desc = true) (h1 : t.sz = 1) (hn : i + ti.size ≤ List.length (α := t.den) xs) (hv : k (.v (.agg (runL t xs i ti.size))) [] [] = some r) : Goal P B nt fr id0 s a w o k r := by
  obtain ⟨hl, _⟩ := ev_R hr x
  rw [hx] at hl
  obtain ⟨hi, kk, o', n', c, he, hva⟩ := hl
  obtain ⟨A, c', hA, _, hel⟩ := he
  simp only [List.cons.injEq, Value.slice.injEq, and_true] at hA
  obtain ⟨hA1, _, _⟩ := hA
  rw [h1, Nat.mul_one, Nat.add_zero] at hva
  have key : ∀ m, m ≤ ti.size → ∃ cs : List Value, cs.length = m ∧ All2 (LR g s.H w (okB B g s.H w)) (runL t xs i m) cs ∧ ∀ (j : Nat) u, cs[j]? = some u → w.cell? ⟨kk, o' + i + j, none⟩ = some u := by
    intro m
    induction m with
    | zero => intro _; exact ⟨[], rfl, trivial, fun j u hj => by simp at hj⟩
    | succ m ih =>
      intro hm
      obtain ⟨cs, q1, q2, q3⟩ := ih (by omega)
      have hlt : i + m < List.length (α := t.den) xs := by omega
      obtain ⟨k', o'', cs', hA', _, he', hcell⟩ := hel (i + m) hlt
      rw [← hA1] at hA'; cases hA'
      have hl1 : cs'.length = 1 := by rw [he'.len, h1]
      obtain ⟨v0, rfl⟩ : ∃ v0, cs' = [v0] := by
        match cs', hl1 with
        | [v0], _ => exact ⟨v0, rfl⟩
      refine ⟨cs ++ [v0], by simp [q1], ?_, fun j u hj => ?_⟩
      · have e : runL t xs i (m + 1) = runL t xs i m ++ inj t (rdE t xs (i + m)) := by simp [runL, List.range_succ, List.flatMap_append]
        have e2 : rdE t xs (i + m) = xs[i + m]'hlt := by simp [rdE, List.getD_eq_getElem?_getD, List.getElem?_eq_getElem hlt]
        rw [e, e2]
        exact All2.app q2 (inj_LR he')
      · by_cases hj2 : j < m
        · rw [List.getElem?_append_left (by omega)] at hj
          exact q3 j u hj
        · have hj3 : j < (cs ++ [v0]).length := (List.getElem?_eq_some_iff.1 hj).1
          simp only [List.length_append, List.length_cons, List.length_nil] at hj3
          have hjm : j = m := by omega
          subst hjm
          rw [List.getElem?_append_right (by omega), q1, Nat.sub_self] at hj
          simp only [List.getElem?_cons_zero, Option.some.injEq] at hj
          have := hcell 0 (by simp)
          rw [h1, Nat.mul_one, Nat.add_zero] at this
          rw [Nat.add_assoc, this, ← hj]
          rfl
  obtain ⟨cs, q1, q2, q3⟩ := key ti.size (Nat.le_refl _)
  refine ⟨_, [], [], hv, eff_pure hd hr (v := mkV (isAggD ti.desc) cs) ?_ ?_ ?_⟩
  · have hload := run_loadVar_cells (P := P) ht w kk (o' + i) cs (by rw [hag, if_pos rfl, q1]) q3
    refine run_v (x := x) (f := Instr.loadAt T) (by simp [execOp, ho]) ?_
    simp only [Instr.loadAt, hva, Instr.sureAddr, Sem.run_bind, Sem.run_pure, Result.andThen_ok, hload]
  · rw [hag]
    exact ⟨cs.toArray, rfl, by simpa using q2⟩
  · intro id hi
    simp only [D.ids, D0.ids, D0.ls, List.mem_flatMap] at hi
    obtain ⟨l, hl, hi⟩ := hi
    rw [runL_ids l hl] at hi
    cases hi

theorem v_arrPtr (hr : Rel B nt fr s g a w) (hd : dstOk nt o.dst = true) {T e : TypeId} {x : Operand} (ho : o.op = .sliceToArrayPointer T x) {E : Nat} {t : Ty} {xs : List t.den} (hx : evD s.e x = .one (.row E t xs))
    {n : Nat} (hT : P.underlying T = some (.array n e)) (h0 : 0 < n) (hn : n ≤ List.length (α := t.den) xs) (hv : k (.one (.els E t xs 0 0)) [] [] = some r) : Goal P B nt fr id0 s a w o k r := by
  obtain ⟨hl, _⟩ := ev_R hr x
  rw [hx] at hl
  have hl' : En w (okB B g s.H w) (.sl E t) xs [a.eval x] := hl
  obtain ⟨A, c, hA, hc, hel⟩ := hl'
  simp only [List.cons.injEq, and_true] at hA
  obtain ⟨k', o', cs', hA', _, _, _⟩ := hel 0 (by omega)
  subst hA'
  refine ⟨_, [], [], hv, eff_pure hd hr (v := .pointer (some ⟨k', o', none⟩)) ?_ ?_ ?_⟩
  · have hrun : (Instr.arrayAt T (a.eval x)).run P w = .ok (.pointer (some ⟨k', o', none⟩)) w := by
      rw [hA]
      simp only [Instr.arrayAt, Sem.run_bind, Sem.run_pure, Result.andThen_ok, run_underlying hT]
      rw [if_neg (by omega)]
      rfl
    refine run_v (x := x) (f := Instr.arrayAt T) (by simp [execOp, ho]) hrun
  · refine ⟨by omega, k', o', List.length (α := t.den) xs, c, ?_, by rw [Nat.zero_mul]; rfl⟩
    exact ⟨some ⟨k', o', none⟩, c, rfl, hc, hel⟩
  · intro id hi; cases hi

/-- An address that is there, and its value. -/
theorem liveA_R {vw : Nat → Vw} (hvw : ∀ id, vw id = .no ∨ vw id = (s.H id).vw) {l : L} {v : Value} (hl : liveA vw l = true) (h : LR g s.H w ok l v) : ∃ kk oo, v = .pointer (some ⟨kk, oo, none⟩) ∧
    ((∃ id off, l = .ptr id off ∧ shO (s.H id) = some (true, .nil, 0)) ∨ (∃ id i off t n, l = .elo id i off ∧ shO (s.H id) = some (false, t, n)) ∨ ∃ E t xs i off, l = .els E t xs i off) := by
  cases l <;> simp only [liveA] at hl
  case ptr id off =>
    split at hl
    · rename_i T ls hv
      have hv' : (s.H id).vw = .box T ls := by rcases hvw id with e | e <;> rw [e] at hv; cases hv; exact hv
      cases e : s.H id with
      | box T' ls' =>
        obtain ⟨kk, hg, he⟩ := h.2 (.nil, 0) (by rw [e]; rfl)
        exact ⟨kk, off, he, .inl ⟨id, off, rfl, by rw [e]; rfl⟩⟩
      | fbx T' ls' =>
        obtain ⟨kk, hg, he⟩ := h.2 (.nil, 0) (by rw [e]; rfl)
        exact ⟨kk, off, he, .inl ⟨id, off, rfl, by rw [e]; rfl⟩⟩
      | _ => rw [e] at hv'; cases hv'
    · cases hl
  case elo id i off =>
    split at hl
    · rename_i E t xs hv
      have hv' : (s.H id).vw = .row E t xs := by rcases hvw id with e | e <;> rw [e] at hv; cases hv; exact hv
      have hs := sh_of_vw hv'
      obtain ⟨_, kk, _, m, c, hg, he⟩ := h.2 t xs.length hs
      exact ⟨kk, _, he, .inr (.inl ⟨id, i, off, t, _, rfl, hs⟩)⟩
    · cases hl
  case els E t xs i off =>
    obtain ⟨_, kk, oo, n, c, _, he⟩ := h
    exact ⟨kk, _, he, .inr (.inr ⟨E, t, xs, i, off, rfl⟩)⟩
  all_goals cases hl

theorem v_nilCheck {vw : Nat → Vw} (hvw : ∀ id, vw id = .no ∨ vw id = (s.H id).vw) (hr : Rel B nt fr s g a w) (hd : dstOk nt o.dst = true) {x : Operand} (ho : o.op = .nilCheck x) {l : L} (hx : evD s.e x = .one l)
    (hl : liveA vw l = true ∨ (∃ f, l = .fn f) ∨ ∃ id f ls, l = .cl id ∧ vw id = .clo f ls) (hv : k (.one l) [] [] = some r) : Goal P B nt fr id0 s a w o k r := by
  obtain ⟨h1, h2⟩ := ev_R hr x
  rw [hx] at h1 h2
  refine ⟨_, _, _, hv, eff_pure hd hr (v := a.eval x) ?_ h1 h2⟩
  rcases hl with hl | ⟨f, rfl⟩ | ⟨id, f, ls, rfl, hvc⟩
  · obtain ⟨kk, oo, he, _⟩ := liveA_R hvw hl h1
    simp [execOp, ho, he]
  · simp [execOp, ho, show a.eval x = _ from h1]
  · have hv' : (s.H id).vw = .clo f ls := by rcases hvw id with e | e <;> rw [e] at hvc; cases hvc; exact hvc
    have hob := hr.objs id
    cases e : s.H id with
    | clo f' ls' =>
      rw [e] at hob
      obtain ⟨caps, hg, _⟩ := hob
      have hva : a.eval x = .func (.func f') #[] caps := (h1.2 .nil 0 (by rw [e]; rfl)).trans hg
      simp [execOp, ho, hva]
    | _ => rw [e] at hv'; cases hv'

theorem v_field (hr : Rel B nt fr s g a w) (hd : dstOk nt o.dst = true) {T : TypeId} {x : Operand} {f : Nat} (ho : o.op = .field T x f) {ls q : List L} (hx : evD s.e x = .v (.agg ls))
    {fs : Array Field} (hT : P.underlying T = some (.struct fs)) {fd : Field} (hf : fs[f]? = some fd) {ti : TI} (ht : tinfo P fd.type = some ti)
    (hq : cut ls fd.offset (if isAggD ti.desc then ti.size else 1) = some q) {d : D} (hm : mkD (isAggD ti.desc) q = some d) (hv : k d [] [] = some r) : Goal P B nt fr id0 s a w o k r := by
  obtain ⟨h1, h2⟩ := ev_R hr x
  rw [hx] at h1 h2
  obtain ⟨cs, hcs, ha⟩ := h1
  obtain ⟨hl, hq2, hmem⟩ := cut_R ha hq
  obtain ⟨hD, hid⟩ := mkD_R hq2 hm
  have hlen : ((cs.toList.drop fd.offset).take (if isAggD ti.desc then ti.size else 1)).length = if isAggD ti.desc then ti.size else 1 := by rw [← hq2.len, hl]
  refine ⟨d, [], [], hv, eff_pure hd hr ?_ hD ?_⟩
  · refine run_v (x := x) (f := fun v => Instr.field T v f) (by simp [execOp, ho]) ?_
    simp only [Instr.field, Sem.run_bind, run_underlying hT, Result.andThen_ok, hf, hcs, asAgg, Sem.run_pure, part, run_isAgg (tinfo_facts ht).1]
    cases hb : isAggD ti.desc
    · simp only [hb, Bool.false_eq_true, if_false] at hlen ⊢
      obtain ⟨c, hc⟩ := List.length_eq_one_iff.1 hlen
      have : cs[fd.offset]? = some c := by
        have := congrArg (·[0]?) hc
        simpa [List.getElem?_take_of_lt, List.getElem?_drop] using this
      simp [this, mkV, hc]
    · simp only [if_true, mkV]
      simp only [Sem.run_bind, run_sizeOf ht, Result.andThen_ok, Sem.run_pure]
      congr 3
      apply Array.ext'
      simp
  · intro id hi
    obtain ⟨l', hl', hi'⟩ := hid id hi
    exact h2 id (by simp only [D.ids, D0.ids, D0.ls, List.mem_flatMap]; exact ⟨l', hmem l' hl', hi'⟩)

theorem v_extract (hr : Rel B nt fr s g a w) (hd : dstOk nt o.dst = true) {x : Operand} {i : Nat} (ho : o.op = .extract x i) {es : List D0} (hx : evD s.e x = .tup es) {d : D0} (he : es[i]? = some d)
    (hv : k (.v d) [] [] = some r) : Goal P B nt fr id0 s a w o k r := by
  obtain ⟨h1, h2⟩ := ev_R hr x
  rw [hx] at h1 h2
  obtain ⟨vs, hvs, ha⟩ := h1
  obtain ⟨v, hv1, hv2⟩ := ha.get? he
  refine ⟨_, _, _, hv, eff_pure hd hr (v := v) ?_ hv2 ?_⟩
  · refine run_v (x := x) (f := fun v => Instr.extract v i) (by simp [execOp, ho]) ?_
    have : vs[i]? = some v := by simpa using hv1
    simp [Instr.extract, hvs, this]
  · intro id hi
    exact h2 id (by simp only [D.ids, List.mem_flatMap]; exact ⟨d, List.mem_of_getElem? he, hi⟩)

theorem v_fieldAddr (hr : Rel B nt fr s g a w) (hd : dstOk nt o.dst = true) {T : TypeId} {x : Operand} {f : Nat} (ho : o.op = .fieldAddr T x f) {l l' : L} (hx : evD s.e x = .one l)
    {fs : Array Field} (hT : P.underlying T = some (.struct fs)) {fd : Field} (hf : fs[f]? = some fd) {ti : TI} (ht : tinfo P fd.type = some ti) (h0 : ¬ ti.size = 0)
    (hl : addOff l fd.offset = some l') (hv : k (.one l') [] [] = some r) {vw : Nat → Vw} (hvw : ∀ id, vw id = .no ∨ vw id = (s.H id).vw) (hlv : liveA vw l = true) : Goal P B nt fr id0 s a w o k r := by
  obtain ⟨h1, h2⟩ := ev_R hr x
  rw [hx] at h1 h2
  have hlive : ∀ id off, l = .ptr id off → shO (s.H id) = some (true, .nil, 0) := by
    intro id off e
    obtain ⟨_, _, _, h⟩ := liveA_R hvw hlv h1
    rcases h with ⟨id', off', e', h⟩ | ⟨_, _, _, _, _, e', _⟩ | ⟨_, _, _, _, _, e'⟩ <;> rw [e] at e' <;> cases e'
    exact h
  have hlive2 : ∀ id i off, l = .elo id i off → ∃ t n, shO (s.H id) = some (false, t, n) := by
    intro id i off e
    obtain ⟨_, _, _, h⟩ := liveA_R hvw hlv h1
    rcases h with ⟨_, _, e', _⟩ | ⟨_, _, _, t, n, e', h⟩ | ⟨_, _, _, _, _, e'⟩ <;> rw [e] at e' <;> cases e'
    exact ⟨t, n, h⟩
  have hrun : ∀ kk oo, a.eval x = .pointer (some ⟨kk, oo, none⟩) → (execOp a.eval o).run P w = .ok (.value (.pointer (some ⟨kk, oo + fd.offset, none⟩))) w := by
    intro kk oo he
    refine run_v (x := x) (f := fun v => Instr.fieldAt T v f) (by simp [execOp, ho]) ?_
    simp [Instr.fieldAt, Instr.sureAddr, run_underlying hT, hf, he, fieldPlace, run_sizeOf ht, h0, add_at]
  cases l <;> simp only [addOff] at hl <;> cases hl
  · rename_i id off
    obtain ⟨kk, hg, he⟩ := h1.2 (.nil, 0) (hlive id off rfl)
    refine ⟨_, _, _, hv, eff_pure hd hr (hrun _ _ he) ⟨⟨_, rfl⟩, fun q hq => ⟨kk, hg, rfl⟩⟩ h2⟩
  · rename_i id i off
    obtain ⟨t, n, hb⟩ := hlive2 id i off rfl
    obtain ⟨hi, kk, oo, m, c, hg, he⟩ := h1.2 t n hb
    refine ⟨_, _, _, hv, eff_pure hd hr (hrun _ _ he) ⟨rfl, fun t' n' ht' => ?_⟩ h2⟩
    rw [hb] at ht'; cases ht'
    exact ⟨hi, kk, oo, m, c, hg, by rw [Nat.add_assoc]⟩
  · rename_i E t xs i off
    obtain ⟨hi, kk, oo, n, c, he, hva⟩ := h1
    refine ⟨_, _, _, hv, eff_pure hd hr (hrun _ _ hva) ⟨hi, kk, oo, n, c, he, by rw [Nat.add_assoc]⟩ h2⟩

end
end Go.Proofs.Fr

/- Each operation does what its plain form says: indices, cuts, lengths, conversions. -/
namespace Go.Proofs.Fr
open Go Go.RowKit

variable {P : Program} {B : Bs} {nt : Nat} {fr : Nat → Prop} {s : S} {g : Nat → Value} {a : Act} {w w' : World} {R : Type} {H : Nat → Ob} {ok : Nat → Prop}

theorem run_sliceBounds {isS : Bool} {len cap : Nat} {lo hi : Option Value} {l h : Int} (hlo : (lo = none ∧ l = 0) ∨ ∃ kk, lo = some (.int kk l)) (hhi : (hi = none ∧ h = len) ∨ ∃ kk, hi = some (.int kk h))
    (h0 : 0 ≤ l) (h1 : l ≤ h) (h2 : h ≤ (cap : Int)) : (Instr.sliceBounds isS len cap lo hi none).run P w = .ok (l.toNat, h.toNat, cap) w := by
  have hh : 0 ≤ h := Int.le_trans h0 h1
  have b1 : ∀ (kk : IntKind) (code : BoundsCode), (Instr.sliceBound (.int kk h) cap code).run P w = .ok h.toNat w := by
    intro kk code
    simp only [Instr.sliceBound, asIntOf, Sem.run_bind, Sem.run_pure, Result.andThen_ok]
    rw [if_pos ⟨hh, h2⟩]; rfl
  have b2 : ∀ (kk : IntKind) (code : BoundsCode), (Instr.sliceBound (.int kk l) h.toNat code).run P w = .ok l.toNat w := by
    intro kk code
    simp only [Instr.sliceBound, asIntOf, Sem.run_bind, Sem.run_pure, Result.andThen_ok]
    rw [if_pos ⟨h0, by omega⟩]; rfl
  have e1 : ∀ (n : Nat), h = n → h.toNat = n := fun n e => by omega
  rcases hlo with ⟨rfl, rfl⟩ | ⟨kl, rfl⟩ <;> rcases hhi with ⟨rfl, hl⟩ | ⟨kh, rfl⟩
  · simp only [Instr.sliceBounds, Sem.run_bind, Sem.run_pure, Result.andThen_ok]
    rw [e1 _ hl]; rfl
  · simp only [Instr.sliceBounds, Sem.run_bind, Sem.run_pure, Result.andThen_ok, b1]; rfl
  · have := b2 kl .sliceB
    rw [e1 _ hl] at this
    simp only [Instr.sliceBounds, Sem.run_bind, Sem.run_pure, Result.andThen_ok, Option.isSome_none, Bool.false_eq_true, if_false, this, e1 _ hl]
  · simp only [Instr.sliceBounds, Sem.run_bind, Sem.run_pure, Result.andThen_ok, b1, b2, Option.isSome_none, Bool.false_eq_true, if_false]

theorem newG_nil (g : Nat → Value) (id0 : Nat) : newG g id0 [] = g := by funext id; unfold newG; rw [if_neg (by simp)]

section
variable {o : Oper} {T : Nat → List Sp} {id0 : Nat} {k : D → List Ob → List Nat → Option R} {r : R} {vw : Nat → Vw}

/-- Rows that are frozen, and nothing else. -/
theorem eff_frz (hd : dstOk nt o.dst = true) (hr : Rel B nt fr s g a w) (hfr : ∀ j, id0 ≤ j → j < id0 + 8 → fr j) {ids : List Nat} (hids : ∀ id ∈ ids, ¬ fr id) (hrow : ∀ id ∈ ids, (s.H id).rb = true)
    {d : D} {v : Value} (hrun : (execOp a.eval o).run P w = .ok (.value v) w) (hi : ∀ id ∈ d.ids, ¬ fr id)
    (hv : ∀ ok', (∀ k, okB B g s.H w k → ok' k) → (∀ id ∈ ids, ∀ k, owned g s.H id = some k → ok' k) → (∀ id, ¬ fr id → cmp g s.H g (frz s.H ids) id) → DR g (frz s.H ids) w ok' d v) : Eff P B nt fr id0 s a w o d [] ids := by
  have hbl : Below w.heap.size w w := Below.refl _ _
  obtain ⟨ok1, ok2, ok3, ok4⟩ := commit_ok (w' := w) hr id0 [] ids [] rfl (by simp) hfr hrow hbl (by simp)
  have hrel := Rel.commit (w' := w) hr id0 [] ids [] rfl (by simp) hfr hids hrow hbl (by simp) (by simp) (by simp) (by simp)
  rw [newG_nil] at ok1 ok3 ok4 hrel
  exact eff_val (g' := g) hd hrun hrel (hv _ ok1 ok3 ok4) fun id h hl => hi id h hl.1

theorem cut_len (hvw : ∀ id, vw id = .no ∨ vw id = (s.H id).vw) (hr : Rel B nt fr s g a w) {id n : Nat} {E : Nat} {t : Ty} {xs : List t.den} (hv : vw id = .row E t xs) {v : Value} (h : LR g s.H w (okB B g s.H w) (.cut id n) v) :
    (s.H id).vw = .row E t xs ∧ n ≤ xs.length ∧ ∃ A c, g id = .slice A xs.length c ∧ v = .slice A n c := by
  have hv' : (s.H id).vw = .row E t xs := by rcases hvw id with e | e <;> rw [e] at hv; cases hv; exact hv
  obtain ⟨hn, A, c, h1, h2⟩ := h.2 t xs.length (sh_of_vw hv')
  exact ⟨hv', hn, A, c, h1, h2⟩

theorem vi_len (hvw : ∀ id, vw id = .no ∨ vw id = (s.H id).vw) (hr : Rel B nt fr s g a w) {id lo hi : Nat} {E : Nat} {t : Ty} {xs : List t.den} (hv : vw id = .row E t xs) {v : Value} (h : LR g s.H w (okB B g s.H w) (.vi id lo hi) v) :
    (s.H id).vw = .row E t xs ∧ lo + (hi - lo) ≤ xs.length ∧ ∃ A A' c, g id = .slice A xs.length c ∧ v = .slice A' (hi - lo) (c - lo) ∧ ((A = none ∧ A' = none) ∨ ∃ ad ad', A = some ad ∧ A' = some ad' ∧ ((c = lo ∧ ∃ j, j ≤ lo ∧ ad' = ad.add (j * t.sz)) ∨ ad' = ad.add (lo * t.sz))) := by
  have hv' : (s.H id).vw = .row E t xs := by rcases hvw id with e | e <;> rw [e] at hv; cases hv; exact hv
  obtain ⟨hn, A, A', c, h1, h2, h3⟩ := h.2 t xs.length (sh_of_vw hv')
  exact ⟨hv', by omega, A, A', c, h1, h2, h3⟩

theorem v_indexAddr (hvw : ∀ id, vw id = .no ∨ vw id = (s.H id).vw) (hr : Rel B nt fr s g a w) (hd : dstOk nt o.dst = true) {T e : TypeId} {x y : Operand} (ho : o.op = .indexAddr T x y) {l : L} {kk : IntKind} {n : Int} (hx : evD s.e x = .one l)
    (hy : evD s.e y = .one (.int kk n)) (hT : P.underlying T = some (.slice e)) {E : Nat} {t : Ty} {xs : List t.den} {m : Nat} (hs : (tinfo P e).map (·.size) = some t.sz) (h0 : 0 ≤ n) (h1 : n < (m : Int)) {l' : L}
    (hl : (m = xs.length ∧ l = .row E t xs ∧ l' = .els E t xs n.toNat 0) ∨ (m = xs.length ∧ ∃ id, l = .own id ∧ vw id = .row E t xs ∧ l' = .elo id n.toNat 0) ∨ (∃ id, l = .cut id m ∧ vw id = .row E t xs ∧ l' = .elo id n.toNat 0) ∨ ∃ id lo hi, l = .vi id lo hi ∧ m = hi - lo ∧ vw id = .row E t xs ∧ l' = .elo id (lo + n.toNat) 0) (hv : k (.one l') [] [] = some r) : Goal P B nt fr id0 s a w o k r := by
  obtain ⟨a1, i1⟩ := ev_R hr x
  obtain ⟨a2, _⟩ := ev_R hr y
  rw [hx] at a1 i1
  rw [hy] at a2
  have vy : a.eval y = .int kk n := a2
  obtain ⟨ti, hti, hsz⟩ : ∃ ti, tinfo P e = some ti ∧ ti.size = t.sz := by
    cases h : tinfo P e with
    | none => rw [h] at hs; cases hs
    | some ti => rw [h] at hs; exact ⟨ti, rfl, by simpa using hs⟩
  have hrun : ∀ kb oo c, a.eval x = .slice (some ⟨kb, oo, none⟩) m c → (execOp a.eval o).run P w = .ok (.value (.pointer (some ⟨kb, oo + n.toNat * t.sz, none⟩))) w := by
    intro kb oo c he
    have h2 : (0 ≤ n ∧ n < (m : Int)) := ⟨h0, h1⟩
    have : (Instr.indexAt T (a.eval x) (a.eval y)).run P w = .ok (.pointer (some ⟨kb, oo + n.toNat * t.sz, none⟩)) w := by
      simp only [Instr.indexAt, he, vy, asIntOf, Sem.run_bind, Sem.run_pure, Result.andThen_ok, run_underlying hT]
      simp only [h2, and_self, if_true, Sem.run_bind, run_sizeOf hti, Result.andThen_ok, Sem.run_pure, add_at, hsz]
    simp [execOp, ho, this]
  -- a row of the call's own
  have owned_ : ∀ id, (s.H id).vw = .row E t xs → n.toNat < xs.length → (∀ kb oo c, g id = .slice (some ⟨kb, oo, none⟩) xs.length c → ∃ c', a.eval x = .slice (some ⟨kb, oo, none⟩) m c') → (∀ id' ∈ (D.one (.elo id n.toNat 0)).ids, ¬ fr id') → k (.one (.elo id n.toNat 0)) [] [] = some r → Goal P B nt fr id0 s a w o k r := by
    intro id hv' hlt hform hi hv
    have hsh := sh_of_vw hv'
    have hen : En w (fun _ => True) (.sl E t) xs [g id] := OB.en (ok' := fun _ => True) (hr.objs id) hv' (fun _ _ => trivial) (fun _ _ => trivial)
    obtain ⟨kb, oo, c, hg⟩ : ∃ kb oo c, g id = .slice (some ⟨kb, oo, none⟩) xs.length c := by
      obtain ⟨A, c, he, _, hrr⟩ := hen
      obtain ⟨kb, oo, cs, hA, _⟩ := hrr n.toNat hlt
      simp only [List.cons.injEq, and_true] at he
      exact ⟨kb, oo, c, he.trans (by rw [hA])⟩
    obtain ⟨c', hva⟩ := hform kb oo c hg
    refine ⟨_, _, _, hv, eff_pure hd hr (hrun kb oo c' hva) ⟨rfl, fun t' n' ht' => ?_⟩ hi⟩
    rw [hsh] at ht'; cases ht'
    exact ⟨hlt, kb, oo, _, c, hg, by simp⟩
  rcases hl with ⟨hm, rfl, rfl⟩ | ⟨hm, id, rfl, hvi, rfl⟩ | ⟨id, rfl, hvi, rfl⟩ | ⟨id, lo, hi, rfl, hm, hvi, rfl⟩
  · have hlt : n.toNat < xs.length := by omega
    have hen := a1
    obtain ⟨A, c, he, _, hrr⟩ := a1
    obtain ⟨kb, oo, cs, hA, _⟩ := hrr n.toNat hlt
    simp only [List.cons.injEq, and_true] at he
    subst hA
    refine ⟨_, _, _, hv, eff_pure hd hr (hrun kb oo c (by rw [hm]; exact he)) ⟨hlt, kb, oo, _, c, he ▸ hen, by rw [Nat.add_zero]⟩ (by simp [D.ids, D0.ids, D0.ls, L.ids])⟩
  · have hv' : (s.H id).vw = .row E t xs := by rcases hvw id with e | e <;> rw [e] at hvi; cases hvi; exact hvi
    exact owned_ id hv' (by omega) (fun kb oo c hg => ⟨c, by rw [hm, ← hg]; exact a1.2 t xs.length (sh_of_vw hv')⟩) i1 hv
  · obtain ⟨hv', hn, A, c, h2, h3⟩ := cut_len hvw hr hvi a1
    exact owned_ id hv' (by omega) (fun kb oo c' hg => ⟨c, by rw [h3]; rw [h2] at hg; cases hg; rfl⟩) i1 hv
  · obtain ⟨hv', hn, A, A', c, h2, h3, h4⟩ := vi_len hvw hr hvi a1
    have hlt : lo + n.toNat < xs.length := by omega
    have hsh := sh_of_vw hv'
    have hen : En w (fun _ => True) (.sl E t) xs [g id] := OB.en (ok' := fun _ => True) (hr.objs id) hv' (fun _ _ => trivial) (fun _ _ => trivial)
    obtain ⟨A0, c0, he, hcc, hrr⟩ := hen
    have hcc' : xs.length ≤ c0 := hcc
    obtain ⟨kb, oo, cs, hA, _⟩ := hrr (lo + n.toNat) hlt
    simp only [List.cons.injEq, and_true] at he
    rw [h2] at he
    simp only [Value.slice.injEq] at he
    obtain ⟨hAA, _, hc0⟩ := he
    rw [hA] at hAA
    subst hAA
    subst hc0
    have hA' : A' = some ⟨kb, oo + lo * t.sz, none⟩ := by
      rcases h4 with ⟨h, _⟩ | ⟨ad, ad', e1, e2, e3⟩
      · cases h
      · cases e1
        rw [e2]
        rcases e3 with ⟨h, _⟩ | h
        · omega
        · rw [h, add_at]
    refine ⟨_, _, _, hv, eff_pure hd hr (hrun kb (oo + lo * t.sz) (c - lo) (by rw [h3, hA', hm])) ⟨rfl, fun t' n' ht' => ?_⟩ i1⟩
    rw [hsh] at ht'; cases ht'
    exact ⟨hlt, kb, oo, _, c, h2, by rw [Nat.add_mul, Nat.add_zero, Nat.add_assoc]⟩

theorem v_indexArr (hvw : ∀ id, vw id = .no ∨ vw id = (s.H id).vw) (hr : Rel B nt fr s g a w) (hd : dstOk nt o.dst = true) {T e : TypeId} {x y : Operand} (ho : o.op = .indexAddr T x y) {l l' : L} {kk : IntKind} {n : Int} (hx : evD s.e x = .one l)
    (hy : evD s.e y = .one (.int kk n)) {m : Nat} (hT : P.underlying T = some (.array m e)) {ti : TI} (hti : tinfo P e = some ti) (hlv : liveA vw l = true) (h0 : 0 ≤ n) (h1 : n < (m : Int))
    (hl : addOff l (n.toNat * ti.size) = some l') (hv : k (.one l') [] [] = some r) : Goal P B nt fr id0 s a w o k r := by
  obtain ⟨a1, i1⟩ := ev_R hr x
  obtain ⟨a2, _⟩ := ev_R hr y
  rw [hx] at a1 i1
  rw [hy] at a2
  have vy : a.eval y = .int kk n := a2
  have hrun : ∀ kb oo, a.eval x = .pointer (some ⟨kb, oo, none⟩) → (execOp a.eval o).run P w = .ok (.value (.pointer (some ⟨kb, oo + n.toNat * ti.size, none⟩))) w := by
    intro kb oo he
    have h2 : (0 ≤ n ∧ n < (m : Int)) := ⟨h0, h1⟩
    have : (Instr.indexAt T (a.eval x) (a.eval y)).run P w = .ok (.pointer (some ⟨kb, oo + n.toNat * ti.size, none⟩)) w := by
      simp only [Instr.indexAt, he, vy, asIntOf, Sem.run_bind, Sem.run_pure, Result.andThen_ok, run_underlying hT, Instr.sureAddr]
      simp only [h2, and_self, if_true, Sem.run_bind, run_sizeOf hti, Result.andThen_ok, Sem.run_pure, add_at]
    simp [execOp, ho, this]
  obtain ⟨_, _, _, hlive⟩ := liveA_R hvw hlv a1
  cases l <;> simp only [addOff] at hl <;> cases hl
  · rename_i id off
    have hs : shO (s.H id) = some (true, .nil, 0) := by
      rcases hlive with ⟨_, _, e', h⟩ | ⟨_, _, _, _, _, e', _⟩ | ⟨_, _, _, _, _, e'⟩ <;> cases e'
      exact h
    obtain ⟨kb, hg, he⟩ := a1.2 (.nil, 0) hs
    exact ⟨_, _, _, hv, eff_pure hd hr (hrun _ _ he) ⟨⟨_, rfl⟩, fun q hq => ⟨kb, hg, rfl⟩⟩ i1⟩
  · rename_i id i off
    obtain ⟨t, n', hb⟩ : ∃ t n, shO (s.H id) = some (false, t, n) := by
      rcases hlive with ⟨_, _, e', _⟩ | ⟨_, _, _, t, n, e', h⟩ | ⟨_, _, _, _, _, e'⟩ <;> cases e'
      exact ⟨t, n, h⟩
    obtain ⟨hi, kb, oo, m', c, hg, he⟩ := a1.2 t n' hb
    refine ⟨_, _, _, hv, eff_pure hd hr (hrun _ _ he) ⟨rfl, fun t' n'' ht' => ?_⟩ i1⟩
    rw [hb] at ht'; cases ht'
    exact ⟨hi, kb, oo, m', c, hg, by rw [Nat.add_assoc]⟩
  · rename_i E t xs i off
    obtain ⟨hi, kb, oo, n', c, he, hva⟩ := a1
    exact ⟨_, _, _, hv, eff_pure hd hr (hrun _ _ hva) ⟨hi, kb, oo, n', c, he, by rw [Nat.add_assoc]⟩ i1⟩

theorem intsOf_R {H : Nat → Ob} {ok : Nat → Prop} {kk : IntKind} : ∀ {ls : List L} {ns : List Int} {cs : List Value}, intsOf kk ls = some ns → All2 (LR g H w ok) ls cs → ns.length = ls.length ∧ ∀ i, i < ls.length → cs[i]? = some (.int kk (ns.getD i 0))
  | [], ns, cs, h, _ => by simp only [intsOf] at h; cases h; exact ⟨rfl, fun i hi => by simp at hi⟩
  | l :: ls, ns, cs, h, ha => by
    cases l <;> simp only [intsOf] at h <;> first | (cases h; done) | skip
    split at h
    · rename_i k' n hk
      subst hk
      split at h
      · rename_i ns' hns
        cases h
        obtain ⟨b, q, rfl, hb, hq⟩ := ha.cons_l
        obtain ⟨h1, h2⟩ := intsOf_R hns hq
        refine ⟨by simp [h1], fun i hi => ?_⟩
        cases i with
        | zero => simp [show b = _ from hb]
        | succ i => simpa using h2 i (by simpa using hi)
      · cases h
    · cases h

theorem boolsOf_R {H : Nat → Ob} {ok : Nat → Prop} : ∀ {ls : List L} {ns : List Bool} {cs : List Value}, boolsOf ls = some ns → All2 (LR g H w ok) ls cs → ns.length = ls.length ∧ ∀ i, i < ls.length → cs[i]? = some (.bool (ns.getD i false))
  | [], ns, cs, h, _ => by simp only [boolsOf] at h; cases h; exact ⟨rfl, fun i hi => by simp at hi⟩
  | l :: ls, ns, cs, h, ha => by
    cases l <;> simp only [boolsOf] at h <;> first | (cases h; done) | skip
    split at h
    · rename_i ns' hns
      cases h
      obtain ⟨b, q, rfl, hb, hq⟩ := ha.cons_l
      obtain ⟨h1, h2⟩ := boolsOf_R hns hq
      refine ⟨by simp [h1], fun i hi => ?_⟩
      cases i with
      | zero => simp [show b = _ from hb]
      | succ i => simpa using h2 i (by simpa using hi)
    · cases h

theorem v_indexAgg (hr : Rel B nt fr s g a w) (hd : dstOk nt o.dst = true) {T e : TypeId} {x y : Operand} (ho : o.op = .index T x y) {kk : IntKind} {n : Int} {ls : List L} (hx : evD s.e x = .v (.agg ls))
    (hy : evD s.e y = .one (.int kk n)) {m : Nat} (hT : P.underlying T = some (.array m e)) {ti : TI} (hti : tinfo P e = some ti) (hs1 : ti.size = 1) (hag : isAggD ti.desc = false) (h0 : 0 ≤ n) (h1 : n < (m : Int)) (hm : ls.length = m)
    {l : L} (hl : selL ls n.toNat = some l) (hv : k (.one l) [] [] = some r) : Goal P B nt fr id0 s a w o k r := by
  obtain ⟨a1, _⟩ := ev_R hr x
  obtain ⟨a2, _⟩ := ev_R hr y
  rw [hx] at a1
  rw [hy] at a2
  have vy : a.eval y = .int kk n := a2
  obtain ⟨cs, vx, ha⟩ := a1
  have hlt : n.toNat < ls.length := by omega
  have fin : ∀ v : Value, l.simple = true → valOf l = v → cs.toList[n.toNat]? = some v → Goal P B nt fr id0 s a w o k r := by
    intro v hsm hvl hc
    refine ⟨_, _, _, hv, eff_pure hd hr (v := v) ?_ (hvl ▸ (simple_LR hsm).1) (one_ids (simple_LR (g := g) (H := s.H) (w := w) (ok := fun _ => True) hsm).2)⟩
    have hp := run_part (w := w) hti (cs := cs) (off := n.toNat) (by
      rw [hag]
      have := (List.getElem?_eq_some_iff.1 hc).1
      simp only [Bool.false_eq_true, if_false, List.length_take, List.length_drop]; omega)
    have : (Instr.index T (a.eval x) (a.eval y)).run P w = .ok v w := by
      simp only [Instr.index, vx, vy, asIntOf, Sem.run_bind, Sem.run_pure, Result.andThen_ok, run_underlying hT]
      rw [if_pos ⟨h0, h1⟩]
      simp only [Sem.run_bind, run_sizeOf hti, Result.andThen_ok, hs1, Nat.mul_one, hp, hag]
      have hd : (cs.toList.drop n.toNat).take 1 = [v] := by
        obtain ⟨hi, he⟩ := List.getElem?_eq_some_iff.1 hc
        rw [List.drop_eq_getElem_cons hi, he]; rfl
      simp [mkV, hd]
    simp [execOp, ho, this]
  unfold selL at hl
  split at hl
  · split at hl
    · rename_i ns hns
      cases hl
      exact fin _ rfl rfl ((intsOf_R hns ha).2 _ hlt)
    · cases hl
  · split at hl
    · rename_i ns hns
      cases hl
      exact fin _ rfl rfl ((boolsOf_R hns ha).2 _ hlt)
    · cases hl
  · cases hl

theorem v_index (hr : Rel B nt fr s g a w) (hd : dstOk nt o.dst = true) {T : TypeId} {x y : Operand} (ho : o.op = .index T x y) {kk : IntKind} {n : Int} {st : ByteArray} (hx : evD s.e x = .one (.str st))
    (hy : evD s.e y = .one (.int kk n)) (hT : P.underlying T = some .string) (h0 : 0 ≤ n) (h1 : n < (st.size : Int)) (hv : k (.one (.int .u8 (btS st n.toNat))) [] [] = some r) : Goal P B nt fr id0 s a w o k r := by
  obtain ⟨a1, _⟩ := ev_R hr x
  obtain ⟨a2, _⟩ := ev_R hr y
  rw [hx] at a1
  rw [hy] at a2
  have vx : a.eval x = .string st := a1
  have vy : a.eval y = .int kk n := a2
  have hlt : n.toNat < st.size := by omega
  have hb : btS st n.toNat = ((st[n.toNat]'hlt).toNat : Int) := by
    have : n.toNat < st.data.toList.length := by rw [Array.length_toList]; exact hlt
    unfold btS
    rw [List.getD_eq_getElem?_getD, List.getElem?_eq_getElem this]
    simp only [Option.getD_some, Array.getElem_toList]
    rfl
  refine ⟨_, _, _, hv, eff_pure hd hr (v := .int .u8 (btS st n.toNat)) ?_ rfl (one_ids rfl)⟩
  have : (Instr.index T (a.eval x) (a.eval y)).run P w = .ok (.int .u8 (btS st n.toNat)) w := by
    simp only [Instr.index, vx, vy, asIntOf, Sem.run_bind, Sem.run_pure, Result.andThen_ok, run_underlying hT]
    rw [if_pos h0, getElem?_pos st n.toNat hlt]
    simp only [Sem.run_pure, hb]
  simp [execOp, ho, this]

theorem v_makeFunc (hr : Rel B nt fr s g a w) (hd : dstOk nt o.dst = true) {f : Nat} (ho : o.op = .makeFunc (.func f) #[] #[]) (hv : k (.one (.fn f)) [] [] = some r) : Goal P B nt fr id0 s a w o k r :=
  ⟨_, _, _, hv, eff_pure hd hr (v := .func (.func f) #[] #[]) (by simp [execOp, ho, Instr.makeFunc]) rfl (one_ids rfl)⟩

theorem own_len (hvw : ∀ id, vw id = .no ∨ vw id = (s.H id).vw) (hr : Rel B nt fr s g a w) {id : Nat} {E : Nat} {t : Ty} {xs : List t.den} (hv : vw id = .row E t xs) {v : Value} (h : LR g s.H w (okB B g s.H w) (.own id) v) :
    v = g id ∧ (s.H id).vw = .row E t xs ∧ ∃ A c, v = .slice A xs.length c := by
  have hv' : (s.H id).vw = .row E t xs := by rcases hvw id with e | e <;> rw [e] at hv; cases hv; exact hv
  have hva := h.2 t xs.length (sh_of_vw hv')
  have hen : En w (fun _ => True) (.sl E t) xs [g id] := OB.en (ok' := fun _ => True) (hr.objs id) hv' (fun _ _ => trivial) (fun _ _ => trivial)
  obtain ⟨A, c, he, _⟩ := hen
  simp only [List.cons.injEq, and_true] at he
  exact ⟨hva, hv', A, c, hva.trans he⟩

theorem v_len (hvw : ∀ id, vw id = .no ∨ vw id = (s.H id).vw) (hr : Rel B nt fr s g a w) (hd : dstOk nt o.dst = true) {x : Operand} {tys : Array TypeId} (ho : o.op = .call { callee := .builtin .len, args := #[x], argTypes := tys }) {l : L} (hx : evD s.e x = .one l)
    {n : Int} (hl : lenOf vw l = some n) (hT : lenTy P tys l = true) (hv : k (.one (.int .i64 n)) [] [] = some r) : Goal P B nt fr id0 s a w o k r := by
  obtain ⟨a1, _⟩ := ev_R hr x
  rw [hx] at a1
  have hT' : ∃ t0, tys[0]? = some t0 ∧ match l with | .str _ => P.underlying t0 = some .string | _ => ∃ e, P.underlying t0 = some (.slice e) := by
    unfold lenTy at hT
    cases h : tys[0]? with
    | none => rw [h] at hT; cases hT
    | some t0 =>
      rw [h] at hT
      refine ⟨t0, rfl, ?_⟩
      simp only at hT
      cases hu : P.underlying t0 with
      | none => rw [hu] at hT; cases hT
      | some d =>
        rw [hu] at hT
        cases d <;> cases l <;> first | (cases hT; done) | rfl | exact ⟨_, rfl⟩
  obtain ⟨t0, ht0, hT⟩ := hT'
  refine ⟨_, _, _, hv, eff_pure hd hr (v := .int .i64 n) ?_ rfl (one_ids rfl)⟩
  have key : (Builtin.len_ tys o.type #[a.eval x]).run P w = .ok (.int .i64 n) w := by
    cases l <;> simp only [lenOf] at hl
    case str st hTT =>
      cases hl
      have vx : a.eval x = .string st := a1
      simp [Builtin.len_, ht0, run_underlying (show P.underlying t0 = some .string from hT), vx, goInt]
    case row E t xs =>
      cases hl
      obtain ⟨e, hT⟩ := hT
      obtain ⟨A, c, he, _⟩ := a1
      simp only [List.cons.injEq, and_true] at he
      simp [Builtin.len_, ht0, run_underlying (show P.underlying t0 = some (.slice e) from hT), he, goInt]
    case nils =>
      cases hl
      obtain ⟨e, hT⟩ := hT
      have vx : a.eval x = .slice none 0 0 := a1
      simp [Builtin.len_, ht0, run_underlying (show P.underlying t0 = some (.slice e) from hT), vx, goInt]
    case own id =>
      split at hl
      · rename_i E t xs hvi
        cases hl
        obtain ⟨e, hT⟩ := hT
        obtain ⟨_, _, A, c, he⟩ := own_len hvw hr hvi a1
        simp [Builtin.len_, ht0, run_underlying (show P.underlying t0 = some (.slice e) from hT), he, goInt]
      · cases hl
    case cut id m =>
      split at hl
      · rename_i E t xs hvi
        cases hl
        obtain ⟨e, hT⟩ := hT
        obtain ⟨_, _, A, c, _, he⟩ := cut_len hvw hr hvi a1
        simp [Builtin.len_, ht0, run_underlying (show P.underlying t0 = some (.slice e) from hT), he, goInt]
      · cases hl
    case vi id lo hi =>
      split at hl
      · rename_i E t xs hvi
        cases hl
        obtain ⟨e, hT⟩ := hT
        obtain ⟨_, _, _, A, c, _, he, _⟩ := vi_len hvw hr hvi a1
        simp [Builtin.len_, ht0, run_underlying (show P.underlying t0 = some (.slice e) from hT), he, goInt]
      · cases hl
    all_goals cases hl
  simp [execOp, ho, resolve, invoke, builtin, key]

theorem v_max (hr : Rel B nt fr s g a w) (hd : dstOk nt o.dst = true) {x y : Operand} {tys : Array TypeId} (ho : o.op = .call { callee := .builtin .max, args := #[x, y], argTypes := tys }) {ka : IntKind} {m n : Int}
    (hx : evD s.e x = .one (.int ka m)) (hy : evD s.e y = .one (.int ka n)) (hv : k (.one (.int ka (if n > m then n else m))) [] [] = some r) : Goal P B nt fr id0 s a w o k r := by
  obtain ⟨a1, _⟩ := ev_R hr x
  obtain ⟨a2, _⟩ := ev_R hr y
  rw [hx] at a1; rw [hy] at a2
  have vx : a.eval x = .int ka m := a1
  have vy : a.eval y = .int ka n := a2
  refine ⟨_, _, _, hv, eff_pure hd hr (v := .int ka (if n > m then n else m)) ?_ rfl (one_ids rfl)⟩
  simp [execOp, ho, resolve, invoke, builtin, Builtin.max_, Builtin.max2, vx, vy]

theorem v_min (hr : Rel B nt fr s g a w) (hd : dstOk nt o.dst = true) {x y : Operand} {tys : Array TypeId} (ho : o.op = .call { callee := .builtin .min, args := #[x, y], argTypes := tys }) {ka : IntKind} {m n : Int}
    (hx : evD s.e x = .one (.int ka m)) (hy : evD s.e y = .one (.int ka n)) (hv : k (.one (.int ka (if n < m then n else m))) [] [] = some r) : Goal P B nt fr id0 s a w o k r := by
  obtain ⟨a1, _⟩ := ev_R hr x
  obtain ⟨a2, _⟩ := ev_R hr y
  rw [hx] at a1; rw [hy] at a2
  have vx : a.eval x = .int ka m := a1
  have vy : a.eval y = .int ka n := a2
  refine ⟨_, _, _, hv, eff_pure hd hr (v := .int ka (if n < m then n else m)) ?_ rfl (one_ids rfl)⟩
  simp [execOp, ho, resolve, invoke, builtin, Builtin.min_, Builtin.min2, vx, vy]

end
end Go.Proofs.Fr

/- Each operation does what its plain form says: cuts, conversions, what makes memory. -/
namespace Go.Proofs.Fr
open Go Go.RowKit

variable {P : Program} {B : Bs} {nt : Nat} {fr : Nat → Prop} {s : S} {g : Nat → Value} {a : Act} {w w' : World} {R : Type} {H : Nat → Ob} {ok : Nat → Prop}

section
variable {o : Oper} {T : Nat → List Sp} {id0 : Nat} {k : D → List Ob → List Nat → Option R} {r : R} {vw : Nat → Vw}

theorem addr_add2 (a : Addr) (m n : Nat) : (a.add m).add n = a.add (m + n) := by
  unfold Addr.add
  by_cases h1 : m = 0 <;> by_cases h2 : n = 0 <;> simp [h1, h2, Nat.add_assoc]

theorem run_sliceAt {T : TypeId} {d : TypeDesc} (hT : P.underlying T = some d) (hd : ∀ n e, d ≠ .array n e) (x : Value) (lo hi mx : Option Value) : (Instr.sliceAt T x lo hi mx).run P w = (Instr.slice T x lo hi mx).run P w := by
  simp only [Instr.sliceAt, Sem.run_bind, run_underlying hT, Result.andThen_ok]

theorem v_sliceStr (hr : Rel B nt fr s g a w) (hd : dstOk nt o.dst = true) {T : TypeId} {x : Operand} {lo hi : Option Operand} (ho : o.op = .slice T x lo hi none) {st : ByteArray} (hx : evD s.e x = .one (.str st)) (hT : P.underlying T = some .string)
    {l h : Int} (hlo : (lo.map a.eval = none ∧ l = 0) ∨ ∃ kk, lo.map a.eval = some (.int kk l)) (hhi : (hi.map a.eval = none ∧ h = st.size) ∨ ∃ kk, hi.map a.eval = some (.int kk h)) (h0 : 0 ≤ l) (h1 : l ≤ h) (h2 : h ≤ (st.size : Int))
    (hv : k (.one (.str (st.extract l.toNat h.toNat))) [] [] = some r) : Goal P B nt fr id0 s a w o k r := by
  obtain ⟨a1, _⟩ := ev_R hr x
  rw [hx] at a1
  have vx : a.eval x = .string st := a1
  refine ⟨_, _, _, hv, eff_pure hd hr (v := .string (st.extract l.toNat h.toNat)) ?_ rfl (one_ids rfl)⟩
  have : (Instr.sliceAt T (a.eval x) (lo.map a.eval) (hi.map a.eval) none).run P w = .ok (.string (st.extract l.toNat h.toNat)) w := by
    rw [run_sliceAt hT (by simp)]
    simp only [Instr.slice, Sem.run_bind, run_underlying hT, Result.andThen_ok, vx, Option.isSome_none, Bool.false_eq_true, if_false, run_sliceBounds hlo hhi h0 h1 h2, Sem.run_pure]
  simp [execOp, ho, this]

theorem slice_run {T e : TypeId} {x : Operand} {lo hi : Option Operand} (ho : o.op = .slice T x lo hi none) (hT : P.underlying T = some (.slice e)) {t : Ty} (hs : (tinfo P e).map (·.size) = some t.sz)
    {l h : Int} {m : Nat} (hlo : (lo.map a.eval = none ∧ l = 0) ∨ ∃ kk, lo.map a.eval = some (.int kk l)) (hhi : (hi.map a.eval = none ∧ h = m) ∨ ∃ kk, hi.map a.eval = some (.int kk h)) {c : Nat} (h0 : 0 ≤ l) (h1 : l ≤ h) (h2 : h ≤ (c : Int))
    {A : Option Addr} (he : a.eval x = .slice A m c) : (execOp a.eval o).run P w = .ok (.value (.slice (if c = l.toNat then A else A.map (·.add (l.toNat * t.sz))) (h.toNat - l.toNat) (c - l.toNat))) w := by
  obtain ⟨ti, hti, hsz⟩ : ∃ ti, tinfo P e = some ti ∧ ti.size = t.sz := by
    cases h : tinfo P e with
    | none => rw [h] at hs; cases hs
    | some ti => rw [h] at hs; exact ⟨ti, rfl, by simpa using hs⟩
  have : (Instr.sliceAt T (a.eval x) (lo.map a.eval) (hi.map a.eval) none).run P w = .ok (.slice (if c = l.toNat then A else A.map (·.add (l.toNat * t.sz))) (h.toNat - l.toNat) (c - l.toNat)) w := by
    rw [run_sliceAt hT (by simp)]
    have hb := run_sliceBounds (P := P) (w := w) (isS := true) (len := m) (cap := c) hlo hhi h0 h1 h2
    simp only [Instr.slice, Sem.run_bind, run_underlying hT, Result.andThen_ok, he, hb, run_sizeOf hti, Sem.run_pure, hsz]
  simp [execOp, ho, this]

theorem v_sliceRow (hr : Rel B nt fr s g a w) (hd : dstOk nt o.dst = true) {T e : TypeId} {x : Operand} {lo hi : Option Operand} (ho : o.op = .slice T x lo hi none)
    (hT : P.underlying T = some (.slice e)) {E : Nat} {t : Ty} {xs : List t.den} (hx : evD s.e x = .one (.row E t xs)) (hs : (tinfo P e).map (·.size) = some t.sz)
    {l h : Int} (hlo : (lo.map a.eval = none ∧ l = 0) ∨ ∃ kk, lo.map a.eval = some (.int kk l)) (hhi : (hi.map a.eval = none ∧ h = xs.length) ∨ ∃ kk, hi.map a.eval = some (.int kk h)) (h0 : 0 ≤ l) (h1 : l ≤ h) (h2 : h ≤ (xs.length : Int))
    (hv : k (.one (.row E t ((xs.take h.toNat).drop l.toNat))) [] [] = some r) : Goal P B nt fr id0 s a w o k r := by
  obtain ⟨a1, i1⟩ := ev_R hr x
  rw [hx] at a1 i1
  have hl1 : l.toNat ≤ h.toNat := by omega
  have hl2 : h.toNat ≤ xs.length := by omega
  have hen : En w (okB B g s.H w) (.sl E t) xs [a.eval x] := a1
  obtain ⟨A, c, he, hc, hrr⟩ := a1
  have hc' : xs.length ≤ c := hc
  simp only [List.cons.injEq, and_true] at he
  rw [he] at hen
  exact ⟨_, _, _, hv, eff_pure hd hr (slice_run ho hT hs hlo hhi h0 h1 (by omega) he) (En_cut hen hl1 hl2) (one_ids rfl)⟩

/-- A view of a row of the call's own, from its beginning on. -/
theorem v_sliceCut (hvw : ∀ id, vw id = .no ∨ vw id = (s.H id).vw) (hr : Rel B nt fr s g a w) (hd : dstOk nt o.dst = true) {T e : TypeId} {x : Operand} {hi : Option Operand} (ho : o.op = .slice T x none hi none) {q : L} (hx : evD s.e x = .one q)
    (hT : P.underlying T = some (.slice e)) {E : Nat} {t : Ty} {xs : List t.den} (hs : (tinfo P e).map (·.size) = some t.sz) {id m : Nat}
    {h : Int} (hhi : (hi.map a.eval = none ∧ h = m) ∨ ∃ kk, hi.map a.eval = some (.int kk h)) (h1 : 0 ≤ h) (h2 : h ≤ (xs.length : Int))
    (hq : (q = .own id ∧ m = xs.length) ∨ q = .cut id m) (hvi : vw id = .row E t xs)
    (hv : k (.one (.cut id h.toNat)) [] [] = some r) : Goal P B nt fr id0 s a w o k r := by
  obtain ⟨a1, i1⟩ := ev_R hr x
  rw [hx] at a1 i1
  have hv' : (s.H id).vw = .row E t xs := by rcases hvw id with e | e <;> rw [e] at hvi; cases hvi; exact hvi
  have hsh := sh_of_vw hv'
  obtain ⟨A', c', he', hcc, _⟩ : En w (fun _ => True) (.sl E t) xs [g id] := OB.en (ok' := fun _ => True) (hr.objs id) hv' (fun _ _ => trivial) (fun _ _ => trivial)
  simp only [List.cons.injEq, and_true] at he'
  have hcc' : xs.length ≤ c' := hcc
  have key : a.eval x = .slice A' m c' ∧ m ≤ xs.length := by
    rcases hq with ⟨rfl, rfl⟩ | rfl
    · exact ⟨(a1.2 t xs.length hsh).trans he', Nat.le_refl _⟩
    · obtain ⟨hn, A, c, g1, g2⟩ := a1.2 t xs.length hsh
      rw [he'] at g1; cases g1
      exact ⟨g2, hn⟩
  have hrun := slice_run (P := P) (w := w) (a := a) ho hT hs (l := 0) (.inl ⟨rfl, rfl⟩) hhi (Int.le_refl _) h1 (by omega) key.1
  have e0 : (Value.slice (if c' = (0 : Int).toNat then A' else A'.map (·.add ((0 : Int).toNat * t.sz))) (h.toNat - (0 : Int).toNat) (c' - (0 : Int).toNat)) = .slice A' h.toNat c' := by
    cases A' <;> simp [Addr.add]
  rw [e0] at hrun
  have i1' : ∀ id' ∈ (D.one (.cut id h.toNat)).ids, ¬ fr id' := by
    rcases hq with ⟨rfl, _⟩ | rfl <;> exact i1
  refine ⟨_, _, _, hv, eff_pure hd hr hrun ⟨rfl, fun t' n' ht' => ?_⟩ i1'⟩
  rw [hsh] at ht'; cases ht'
  exact ⟨by omega, A', c', he', rfl⟩

/-- A view of some of a row of the call's own. -/
theorem v_sliceVi (hvw : ∀ id, vw id = .no ∨ vw id = (s.H id).vw) (hr : Rel B nt fr s g a w) (hd : dstOk nt o.dst = true) {T e : TypeId} {x : Operand} {lo hi : Option Operand} (ho : o.op = .slice T x lo hi none) {q : L} (hx : evD s.e x = .one q)
    (hT : P.underlying T = some (.slice e)) {E : Nat} {t : Ty} {xs : List t.den} (hs : (tinfo P e).map (·.size) = some t.sz) {id m b0 : Nat}
    {l h : Int} (hlo : (lo.map a.eval = none ∧ l = 0) ∨ ∃ kk, lo.map a.eval = some (.int kk l)) (hhi : (hi.map a.eval = none ∧ h = m) ∨ ∃ kk, hi.map a.eval = some (.int kk h)) (h0 : 0 ≤ l) (h1 : l ≤ h)
    (hq : (q = .own id ∧ b0 = 0 ∧ m = xs.length ∧ h ≤ (xs.length : Int)) ∨ (q = .cut id m ∧ b0 = 0 ∧ h ≤ (xs.length : Int)) ∨ (∃ hi0, q = .vi id b0 hi0 ∧ m = hi0 - b0 ∧ h ≤ (m : Int))) (hvi : vw id = .row E t xs)
    (hv : k (.one (.vi id (b0 + l.toNat) (b0 + h.toNat))) [] [] = some r) : Goal P B nt fr id0 s a w o k r := by
  obtain ⟨a1, i1⟩ := ev_R hr x
  rw [hx] at a1 i1
  have hv' : (s.H id).vw = .row E t xs := by rcases hvw id with e | e <;> rw [e] at hvi; cases hvi; exact hvi
  have hsh := sh_of_vw hv'
  obtain ⟨A, c, he, hcc, _⟩ : En w (fun _ => True) (.sl E t) xs [g id] := OB.en (ok' := fun _ => True) (hr.objs id) hv' (fun _ _ => trivial) (fun _ _ => trivial)
  simp only [List.cons.injEq, and_true] at he
  have hcc' : xs.length ≤ c := hcc
  have key : ∃ A', a.eval x = .slice A' m (c - b0) ∧ b0 + h.toNat ≤ xs.length ∧ ((A = none ∧ A' = none) ∨ ∃ ad ad', A = some ad ∧ A' = some ad' ∧ ((c = b0 ∧ ∃ j, j ≤ b0 ∧ ad' = ad.add (j * t.sz)) ∨ ad' = ad.add (b0 * t.sz))) := by
    rcases hq with ⟨rfl, rfl, rfl, hh⟩ | ⟨rfl, rfl, hh⟩ | ⟨hi0, rfl, hm, hh⟩
    · refine ⟨A, (a1.2 t xs.length hsh).trans he, by omega, ?_⟩
      cases A with
      | none => exact .inl ⟨rfl, rfl⟩
      | some ad => exact .inr ⟨ad, ad, rfl, rfl, .inr (by simp [Addr.add])⟩
    · obtain ⟨hn, A1, c1, g1, g2⟩ := a1.2 t xs.length hsh
      rw [he] at g1; cases g1
      refine ⟨A, g2, by omega, ?_⟩
      cases A with
      | none => exact .inl ⟨rfl, rfl⟩
      | some ad => exact .inr ⟨ad, ad, rfl, rfl, .inr (by simp [Addr.add])⟩
    · obtain ⟨hn, A1, A', c1, g1, g2, g3⟩ := a1.2 t xs.length hsh
      rw [he] at g1; cases g1
      exact ⟨A', by rw [hm]; exact g2, by omega, g3⟩
  obtain ⟨A', hxv, hle, hA⟩ := key
  have hrun := slice_run (P := P) (w := w) (a := a) ho hT hs hlo hhi h0 h1 (by omega) hxv
  have i1' : ∀ id' ∈ (D.one (.vi id (b0 + l.toNat) (b0 + h.toNat))).ids, ¬ fr id' := by
    rcases hq with ⟨rfl, _⟩ | ⟨rfl, _⟩ | ⟨hi0, rfl, _⟩ <;> exact i1
  refine ⟨_, _, _, hv, eff_pure hd hr hrun ⟨rfl, fun t' n' ht' => ?_⟩ i1'⟩
  rw [hsh] at ht'; cases ht'
  refine ⟨⟨by omega, by omega⟩, A, _, c, he, by rw [Nat.sub_sub, Nat.add_sub_add_left], ?_⟩
  rcases hA with ⟨rfl, rfl⟩ | ⟨ad, ad', rfl, rfl, hA⟩
  · exact .inl ⟨rfl, by split <;> rfl⟩
  · refine .inr ⟨ad, if c - b0 = l.toNat then ad' else ad'.add (l.toNat * t.sz), rfl, ?_, ?_⟩
    · by_cases hc : c - b0 = l.toNat
      · rw [if_pos hc, if_pos hc]
      · rw [if_neg hc, if_neg hc]; rfl
    · by_cases hc : c - b0 = l.toNat
      · refine .inl ⟨by omega, ?_⟩
        rw [if_pos hc]
        rcases hA with ⟨_, j, hj, hA⟩ | hA
        · exact ⟨j, by omega, hA⟩
        · exact ⟨b0, by omega, hA⟩
      · rcases hA with ⟨hA, _⟩ | hA
        · omega
        · rw [if_neg hc, hA, addr_add2, ← Nat.add_mul]
          exact .inr rfl

/-- What has a length, and is no string, is a slice. -/
theorem len_slice (hvw : ∀ id, vw id = .no ∨ vw id = (s.H id).vw) (hr : Rel B nt fr s g a w) {x : Operand} {l : L} (hx : evD s.e x = .one l) {n : Int} (hl : lenOf vw l = some n) {T e : TypeId} (hT : P.underlying T = some (.slice e)) (ht : lenTy P #[T] l = true) :
    ∃ A m c, a.eval x = .slice A m c ∧ n = (m : Int) ∧ m ≤ c := by
  obtain ⟨a1, _⟩ := ev_R hr x
  rw [hx] at a1
  have hns : ∀ st, l ≠ .str st := by
    rintro st rfl
    simp only [lenTy, List.getElem?_toArray, List.getElem?_cons_zero, hT] at ht
    cases ht
  have full : ∀ {id : Nat} {E : Nat} {t : Ty} {xs : List t.den}, vw id = .row E t xs → (s.H id).vw = .row E t xs ∧ ∃ A c, g id = .slice A xs.length c ∧ xs.length ≤ c := by
    intro id E t xs hvi
    have hv' : (s.H id).vw = .row E t xs := by rcases hvw id with e | e <;> rw [e] at hvi; cases hvi; exact hvi
    obtain ⟨A, c, he, hc, _⟩ : En w (fun _ => True) (.sl E t) xs [g id] := OB.en (ok' := fun _ => True) (hr.objs id) hv' (fun _ _ => trivial) (fun _ _ => trivial)
    simp only [List.cons.injEq, and_true] at he
    exact ⟨hv', A, c, he, hc⟩
  cases l <;> simp only [lenOf] at hl <;> try (cases hl; done)
  case row E t xs =>
    cases hl
    obtain ⟨A, c, he, hc, _⟩ := a1
    simp only [List.cons.injEq, and_true] at he
    exact ⟨A, _, c, he, rfl, hc⟩
  case nils =>
    cases hl
    exact ⟨none, 0, 0, a1, rfl, Nat.le_refl _⟩
  case str st => exact absurd rfl (hns st)
  case own id =>
    split at hl
    · rename_i E t xs hvi
      cases hl
      obtain ⟨hv', A, c, hg, hc⟩ := full hvi
      exact ⟨A, _, c, (a1.2 t xs.length (sh_of_vw hv')).trans hg, rfl, hc⟩
    · cases hl
  case cut id m =>
    split at hl
    · rename_i E t xs hvi
      cases hl
      obtain ⟨hv', A, c, hg, hc⟩ := full hvi
      obtain ⟨hn, A1, c1, h1, h2⟩ := a1.2 t xs.length (sh_of_vw hv')
      rw [hg] at h1; cases h1
      exact ⟨A, m, c, h2, rfl, by omega⟩
    · cases hl
  case vi id lo hi =>
    split at hl
    · rename_i E t xs hvi
      cases hl
      obtain ⟨hv', A, c, hg, hc⟩ := full hvi
      obtain ⟨hn, A1, A', c1, h1, h2, _⟩ := a1.2 t xs.length (sh_of_vw hv')
      rw [hg] at h1; cases h1
      exact ⟨A', hi - lo, c - lo, h2, rfl, by omega⟩
    · cases hl

/-- A cut of three bounds. -/
theorem v_slice3 (hvw : ∀ id, vw id = .no ∨ vw id = (s.H id).vw) (hr : Rel B nt fr s g a w) (hd : dstOk nt o.dst = true) {T e : TypeId} {x : Operand} {lo hi : Option Operand} {mx : Operand} (ho : o.op = .slice T x lo hi (some mx)) {q : L} (hx : evD s.e x = .one q)
    (hT : P.underlying T = some (.slice e)) {l h m n : Int} (hlen : lenOf vw q = some n) (hty : lenTy P #[T] q = true) (hti : (tinfo P e).isSome = true)
    (hlo : (lo.map a.eval = none ∧ l = 0) ∨ ∃ kk, lo.map a.eval = some (.int kk l)) (hhi : ∃ kk, hi.map a.eval = some (.int kk h)) (hmx : ∃ kk, a.eval mx = .int kk m) (h0 : 0 ≤ l) (h1 : l ≤ h) (h2 : h ≤ m) (h3 : m ≤ n)
    (hv : cut3 P e q l h (fun y => k (.one y) [] []) = some r) : Goal P B nt fr id0 s a w o k r := by
  obtain ⟨A, n0, c, hxv, hn, hc⟩ := len_slice hvw hr hx hlen hT hty
  obtain ⟨ti, hti⟩ := Option.isSome_iff_exists.1 hti
  obtain ⟨kh, hhi⟩ := hhi
  obtain ⟨km, hmx⟩ := hmx
  have hh0 : 0 ≤ h := Int.le_trans h0 h1
  have hm0 : 0 ≤ m := Int.le_trans hh0 h2
  have hb : (Instr.sliceBounds true n0 c (lo.map a.eval) (hi.map a.eval) (some (.int km m))).run P w = .ok (l.toNat, h.toNat, m.toNat) w := by
    have b1 : ∀ (kk : IntKind) (i : Int) (u : Nat) (code : BoundsCode), 0 ≤ i → i ≤ (u : Int) → (Instr.sliceBound (.int kk i) u code).run P w = .ok i.toNat w := by
      intro kk i u code hi0 hiu
      simp only [Instr.sliceBound, asIntOf, Sem.run_bind, Sem.run_pure, Result.andThen_ok]
      rw [if_pos ⟨hi0, hiu⟩]; rfl
    rw [hhi]
    rcases hlo with ⟨hl, rfl⟩ | ⟨kl, hl⟩
    · rw [hl]
      simp only [Instr.sliceBounds, Sem.run_bind, Sem.run_pure, Result.andThen_ok, b1 km m c _ hm0 (by omega), b1 kh h m.toNat _ hh0 (by omega)]
      rfl
    · rw [hl]
      simp only [Instr.sliceBounds, Sem.run_bind, Sem.run_pure, Result.andThen_ok, b1 km m c _ hm0 (by omega), b1 kh h m.toNat _ hh0 (by omega), b1 kl l h.toNat _ h0 (by omega)]
  have hrun : (execOp a.eval o).run P w = .ok (.value (.slice (if m.toNat = l.toNat then A else A.map (·.add (l.toNat * ti.size))) (h.toNat - l.toNat) (m.toNat - l.toNat))) w := by
    have : (Instr.sliceAt T (a.eval x) (lo.map a.eval) (hi.map a.eval) (some (a.eval mx))).run P w = .ok (.slice (if m.toNat = l.toNat then A else A.map (·.add (l.toNat * ti.size))) (h.toNat - l.toNat) (m.toNat - l.toNat)) w := by
      rw [run_sliceAt hT (by simp)]
      simp only [Instr.slice, Sem.run_bind, run_underlying hT, Result.andThen_ok, hxv, hmx, hb, run_sizeOf hti, Sem.run_pure]
    simp [execOp, ho, this]
  unfold cut3 at hv
  split at hv
  · rename_i E t xs
    split at hv
    · rename_i hs
      have hsz : ti.size = t.sz := by rw [hti] at hs; simpa using hs
      obtain ⟨a1, _⟩ := ev_R hr x
      rw [hx] at a1
      have hen : En w (okB B g s.H w) (.sl E t) xs [a.eval x] := a1
      rw [hxv] at hen
      obtain ⟨A0, c0, he, hc0, hrr⟩ := hen
      simp only [List.cons.injEq, Value.slice.injEq, and_true] at he
      obtain ⟨rfl, hn0, rfl⟩ := he
      have hn1 : n0 = xs.length := hn0
      have hlen2 : ((xs.take h.toNat).drop l.toNat).length = h.toNat - l.toNat := by simp; omega
      refine ⟨_, _, _, hv, eff_pure hd hr hrun ⟨_, m.toNat - l.toNat, by rw [hlen2], by rw [hlen2]; omega, fun i hi => ?_⟩ (one_ids rfl)⟩
      rw [hlen2] at hi
      have hi' : l.toNat + i < xs.length := by omega
      obtain ⟨kb, oo, cs, hA, hok, hen, hcell⟩ := hrr (l.toNat + i) hi'
      have hne : ¬ m.toNat = l.toNat := by omega
      refine ⟨kb, oo + l.toNat * t.sz, cs, by rw [if_neg hne, hA, hsz]; simp [add_at], hok, ?_, fun j hj => ?_⟩
      · have : ((xs.take h.toNat).drop l.toNat)[i]'(by rw [hlen2]; exact hi) = xs[l.toNat + i] := by simp
        rw [this]; exact hen
      · have := hcell j hj
        rw [show oo + l.toNat * t.sz + i * t.sz + j = oo + (l.toNat + i) * t.sz + j by rw [Nat.add_mul]; omega]
        exact this
    · cases hv
  · exact ⟨_, _, _, hv, eff_pure hd hr hrun trivial (by simp [D.ids, D0.ids, D0.ls, L.ids])⟩

theorem pjN_len0 {vw : Nat → Vw} {t : Ty} : ∀ {n : Nat} {ls r : List L} {xs : List t.den} {ids : List Nat}, pjN vw t n ls = some (xs, r, ids) → xs.length = n
  | 0, ls, r, xs, ids, h => by simp only [pjN] at h; cases h; rfl
  | n + 1, ls, r, xs, ids, h => by
    simp only [pjN] at h
    split at h
    · split at h
      · rename_i h2
        cases h
        simp [pjN_len0 h2]
      · cases h
    · cases h

theorem v_sliceNil (hr : Rel B nt fr s g a w) (hd : dstOk nt o.dst = true) {T e : TypeId} {x : Operand} {lo hi : Option Operand} (ho : o.op = .slice T x lo hi none) (hx : evD s.e x = .one .nils)
    (hT : P.underlying T = some (.slice e)) {ti : TI} (hti : tinfo P e = some ti)
    {l h : Int} (hlo : (lo.map a.eval = none ∧ l = 0) ∨ ∃ kk, lo.map a.eval = some (.int kk l)) (hhi : (hi.map a.eval = none ∧ h = (0 : Nat)) ∨ ∃ kk, hi.map a.eval = some (.int kk h)) (h0 : 0 ≤ l) (h1 : l ≤ h) (h2 : h ≤ ((0 : Nat) : Int))
    (hv : k (.one .nils) [] [] = some r) : Goal P B nt fr id0 s a w o k r := by
  obtain ⟨a1, i1⟩ := ev_R hr x
  rw [hx] at a1
  have vx : a.eval x = .slice none 0 0 := a1
  have e1 : l.toNat = 0 := by omega
  have e2 : h.toNat = 0 := by omega
  refine ⟨_, _, _, hv, eff_pure hd hr (v := .slice none 0 0) ?_ rfl (one_ids rfl)⟩
  have : (Instr.sliceAt T (a.eval x) (lo.map a.eval) (hi.map a.eval) none).run P w = .ok (.slice none 0 0) w := by
    rw [run_sliceAt hT (by simp)]
    have hb := run_sliceBounds (P := P) (w := w) (isS := true) (len := 0) (cap := 0) hlo hhi h0 h1 h2
    simp only [Instr.slice, Sem.run_bind, run_underlying hT, Result.andThen_ok, vx, hb, run_sizeOf hti, Sem.run_pure, e1, e2]
    simp
  simp [execOp, ho, this]

/-- The cells of a new block are one object. -/
theorem eff_one (hd : dstOk nt o.dst = true) (hr : Rel B nt fr s g a w) (hfr : ∀ j, id0 ≤ j → j < id0 + 8 → fr j) {ids : List Nat} (hids : ∀ id ∈ ids, ¬ fr id) (hrow : ∀ id ∈ ids, (s.H id).rb = true)
    {d : D} {v : Value} {ob : Ob} (hrun : (execOp a.eval o).run P w = .ok (.value v) w') (hb : Below w.heap.size w w') (hblk : ∀ k, blkOf v = some k → w.heap.size ≤ k) (hbox : ∀ j ∈ ob.kids, ¬ fr j)
    (hdv : DR (newG g id0 [v]) (setObs (frz s.H ids) id0 [ob]) w' (okB B (newG g id0 [v]) (setObs (frz s.H ids) id0 [ob]) w') d v) (hi : ∀ id ∈ d.ids, id = id0)
    (hob : (∀ k, okB B g s.H w k → okB B (newG g id0 [v]) (setObs (frz s.H ids) id0 [ob]) w' k) → (∀ id ∈ ids, ∀ k, owned g s.H id = some k → okB B (newG g id0 [v]) (setObs (frz s.H ids) id0 [ob]) w' k) → (∀ id, ¬ fr id → cmp g s.H (newG g id0 [v]) (setObs (frz s.H ids) id0 [ob]) id) →
      OB (newG g id0 [v]) (setObs (frz s.H ids) id0 [ob]) w' (okB B (newG g id0 [v]) (setObs (frz s.H ids) id0 [ob]) w') id0 ob) : Eff P B nt fr id0 s a w o d [ob] ids := by
  have hblk' : ∀ (i : Nat) u k, [v][i]? = some u → blkOf u = some k → w.heap.size ≤ k := by
    intro i u k hu hk
    cases i with
    | zero => simp at hu; subst hu; exact hblk k hk
    | succ i => simp at hu
  have hdis : ∀ (i j : Nat) x y k, [v][i]? = some x → [v][j]? = some y → blkOf x = some k → blkOf y = some k → i = j := by
    intro i j x y k hx hy _ _
    cases i <;> cases j <;> simp at hx hy ⊢
  obtain ⟨ok1, ok2, ok3, ok4⟩ := commit_ok hr id0 [ob] ids [v] rfl (by simp) hfr hrow hb hblk'
  have hrel := Rel.commit hr id0 [ob] ids [v] rfl (by simp) hfr hids hrow hb hblk' hdis (fun o h j hj hf => by
    simp only [List.mem_singleton] at h
    subst h
    exact hbox j hj hf.1) (fun i o' ho' => by
    cases i with
    | zero => simp at ho'; subst ho'; exact hob ok1 ok3 ok4
    | succ i => simp at ho')
  exact eff_val hd hrun hrel hdv fun id h hl => by
    have := hi id h
    subst this
    exact hl.2 ⟨Nat.le_refl _, by omega⟩

theorem newG_at (g : Nat → Value) (id0 : Nat) (v : Value) : newG g id0 [v] id0 = v := by unfold newG; rw [if_pos ⟨Nat.le_refl _, by simp⟩]; simp

theorem alloc_below (w : World) (ob : Obj) : Below w.heap.size w { w with heap := w.heap.push ob } := ⟨rfl, rfl, rfl, by simp, fun k hk => by simp [Array.getElem?_push, Nat.ne_of_lt hk]⟩
theorem alloc_at (w : World) (ob : Obj) : ({ w with heap := w.heap.push ob } : World).heap[w.heap.size]? = some ob := by simp

theorem box_eff (hd : dstOk nt o.dst = true) (hr : Rel B nt fr s g a w) (hfr : ∀ j, id0 ≤ j → j < id0 + 8 → fr j) {T : TypeId} {ls : List L} {cells : Array Value} (hls : All2 (LR g s.H w (okB B g s.H w)) ls cells.toList) (hid : ∀ l ∈ ls, ∀ id ∈ l.ids, ¬ fr id)
    (hrun : (execOp a.eval o).run P w = .ok (.value (.pointer (some ⟨w.heap.size, 0, none⟩))) { w with heap := w.heap.push (.cells cells T) }) : Eff P B nt fr id0 s a w o (.one (.ptr id0 0)) [.box T ls] [] := by
  refine eff_one (v := .pointer (some ⟨w.heap.size, 0, none⟩)) hd hr hfr (ids := []) (by simp) (by simp) hrun (alloc_below w _) (fun k hk => by simp [blkOf] at hk; omega) (fun j hj => ?_) ?_ (by simp [D.ids, D0.ids, D0.ls, L.ids]) fun ok1 _ ok4 => ?_
  · obtain ⟨l, hl, hj⟩ := List.mem_flatMap.1 hj; exact hid l hl j hj
  · exact ⟨⟨_, rfl⟩, fun q hq => ⟨w.heap.size, newG_at _ _ _, rfl⟩⟩
  · refine ⟨w.heap.size, cells, newG_at _ _ _, alloc_at w _, hls.mono_mem fun l v hl h => LR.mono (fun k hk => ⟨ok1 k hk, (alloc_below w _).block k hk.1⟩) (fun id hi => ok4 id (hid l hl id hi)) h⟩

theorem v_box (hr : Rel B nt fr s g a w) (hfr : ∀ j, id0 ≤ j → j < id0 + 8 → fr j) (hd : dstOk nt o.dst = true) {T : TypeId} {x : Operand} (ho : o.op = .box T x) {d : D0} (hx : evD s.e x = .v d) (hs : d.ls.all L.solid = true)
    (hv : k (.one (.ptr id0 0)) [.box T d.ls] [] = some r) : Goal P B nt fr id0 s a w o k r := by
  obtain ⟨a1, i1⟩ := ev_R hr x
  rw [hx] at a1 i1
  have hc := D0R_cells hs a1
  refine ⟨_, _, _, hv, box_eff hd hr hfr hc (fun l hl id hid => i1 id (by simp only [D.ids, D0.ids, List.mem_flatMap]; exact ⟨l, hl, hid⟩)) ?_⟩
  simp [execOp, ho, Instr.box, newVar, newRow]

theorem v_alloc (hr : Rel B nt fr s g a w) (hfr : ∀ j, id0 ≤ j → j < id0 + 8 → fr j) (hd : dstOk nt o.dst = true) {T : TypeId} (ho : o.op = .alloc T) {ti : TI} (hti : tinfo P T = some ti) {zl : List L} (hz : lits ti.zero.cells.toList = some zl)
    (hv : k (.one (.ptr id0 0)) [.box T zl] [] = some r) : Goal P B nt fr id0 s a w o k r := by
  obtain ⟨h1, h2⟩ := lits_LR (g := g) (H := s.H) (w := w) (ok := okB B g s.H w) hz
  refine ⟨_, _, _, hv, box_eff hd hr hfr h1 (fun l hl id hid => by rw [h2 l hl] at hid; cases hid) ?_⟩
  simp [execOp, ho, Instr.alloc, newVar, newRow, run_zeroV hti]

/-- A row of the call's own, in a block that is new. -/
theorem row_eff (hd : dstOk nt o.dst = true) (hr : Rel B nt fr s g a w) (hfr : ∀ j, id0 ≤ j → j < id0 + 8 → fr j) {ids : List Nat} (hids : ∀ id ∈ ids, ¬ fr id) (hrow : ∀ id ∈ ids, (s.H id).rb = true)
    {E : Nat} {t : Ty} {xs : List t.den} {cells : Array Value} {cap : Nat} (hcap : xs.length ≤ cap) (hm : cap ≤ maxLen) (hsz : cells.size = cap * t.sz)
    (hen : ∀ ok', (∀ k, okB B g s.H w k → ok' k) → (∀ id ∈ ids, ∀ k, owned g s.H id = some k → ok' k) → ∃ css, All2 (En w ok' t) xs css ∧ cells.toList.take (xs.length * t.sz) = css.flatten)
    (hrun : (execOp a.eval o).run P w = .ok (.value (.slice (some ⟨w.heap.size, 0, none⟩) xs.length cap)) { w with heap := w.heap.push (.cells cells E) }) : Eff P B nt fr id0 s a w o (.one (.own id0)) [.row E t xs] ids := by
  refine eff_one (v := .slice (some ⟨w.heap.size, 0, none⟩) xs.length cap) hd hr hfr (ids := ids) hids hrow hrun (alloc_below w _) (fun k hk => by simp [blkOf] at hk; omega) (by simp [Ob.kids]) ?_ (by simp [D.ids, D0.ids, D0.ls, L.ids]) fun ok1 ok3 ok4 => ?_
  · exact ⟨rfl, fun t n hq => (newG_at _ _ _).symm⟩
  · obtain ⟨css, h1, h2⟩ := hen (fun k => okB B g s.H w k ∨ ∃ id ∈ ids, owned g s.H id = some k) (fun _ => .inl) (fun id hi k hk => .inr ⟨id, hi, hk⟩)
    refine ⟨css, h1.mono fun x c hc => En.mono (fun k hk => ?_) hc, ?_⟩
    · rcases hk with hk | ⟨id, hi, hk⟩
      · exact ⟨ok1 k hk, (alloc_below w _).block k hk.1⟩
      · exact ⟨ok3 id hi k hk, (alloc_below w _).block k (OB.lt (hr.objs id) rfl hk)⟩
    · rw [newG_at]
      refine ⟨?_, .inr ⟨w.heap.size, 0, cap, cells, rfl, Nat.zero_le _, alloc_at w _, hcap, hm, by rw [Nat.zero_add]; exact Nat.le_of_eq hsz.symm, by rw [List.drop_zero]; exact h2⟩⟩
      exact flat_len (R := En w _ t) t.sz h1 (fun _ _ h => h.len)

end
end Go.Proofs.Fr
