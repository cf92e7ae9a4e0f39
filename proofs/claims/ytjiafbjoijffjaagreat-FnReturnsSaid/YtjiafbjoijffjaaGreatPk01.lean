/- Definitions of a symbolic evaluator for the model's code over abstract frames and objects. -/
import Derived.WalkKit
namespace Go.Vx
set_option linter.unusedSimpArgs false
set_option linter.unusedVariables false
open Go

structure Rt where
  num : Int
  den : Int
deriving DecidableEq

structure Pt where
  x : Rt
  y : Rt
deriving DecidableEq

structure Iv where
  a : Rt
  b : Rt
deriving DecidableEq

/-- A slice as it was handed in, and what it holds. -/
structure Raw where
  u : Value
  bs : List Int
  h : ∃ a c, u = .slice a bs.length c
  hl : bs.length ≤ maxLen
  hb : ∀ b ∈ bs, 0 ≤ b ∧ b ≤ 255

/-- A cursor over such a slice. -/
structure Cur where
  r : Raw
  at_ : Int
  sd : Int

def Raw.nil : Raw := ⟨.slice none 0 0, [], ⟨none, 0, rfl⟩, Nat.zero_le _, fun _ h => by cases h⟩

/-- Scalars: what one cell holds. -/
inductive Sc where
  | num (k : IntKind) (n : Int)
  | lit (b : Bool)
  | bool (b : Bool)
  | str (s : ByteArray)
  | ref (id off : Nat)
  | eref (id i off : Nat)
  | vw (id off len : Nat)
  | own (id : Nat)
  | nil
  | fn (f : Nat) (cap : List (Nat × Nat))
  | und
  | any
  | clo (id : Nat)
  | raw (r : Raw)

inductive SV where
  | sc (s : Sc)
  | ag (cs : List Sc)
  | tp (vs : List (Bool × List Sc))

/-- Kinds of plain values. -/
inductive VK where
  | num (k : IntKind)
  | bool
  | str
  | rat
  | pt
  | iv
  | raw
  | cur
deriving DecidableEq

def sameK : IntKind → IntKind → Bool
  | .i64, .i64 => true
  | .i32, .i32 => true
  | .u8, .u8 => true
  | .u64, .u64 => true
  | .i8, .i8 => true
  | .i16, .i16 => true
  | .u16, .u16 => true
  | .u32, .u32 => true
  | _, _ => false

abbrev VK.ty : VK → Type
  | .num _ => Int
  | .bool => Bool
  | .str => ByteArray
  | .rat => Rt
  | .pt => Pt
  | .iv => Iv
  | .raw => Raw
  | .cur => Cur

def VK.size : VK → Nat
  | .num _ => 1
  | .bool => 1
  | .str => 1
  | .rat => 2
  | .pt => 4
  | .iv => 4
  | .raw => 1
  | .cur => 3

def VK.isAg : VK → Bool
  | .num _ => false
  | .bool => false
  | .str => false
  | .rat => true
  | .pt => true
  | .iv => true
  | .raw => false
  | .cur => true

def VK.dflt : (k : VK) → k.ty
  | .num _ => (0 : Int)
  | .bool => false
  | .str => ByteArray.empty
  | .rat => Rt.mk 0 0
  | .pt => Pt.mk (Rt.mk 0 0) (Rt.mk 0 0)
  | .iv => Iv.mk (Rt.mk 0 0) (Rt.mk 0 0)
  | .raw => Raw.nil
  | .cur => Cur.mk Raw.nil 0 0

def VK.enc : (k : VK) → k.ty → List Sc
  | .num k, n => [.num k n]
  | .bool, b => [.bool b]
  | .str, s => [.str s]
  | .rat, Rt.mk a b => [.num .i64 a, .num .i64 b]
  | .pt, Pt.mk (Rt.mk a b) (Rt.mk c d) => [.num .i64 a, .num .i64 b, .num .i64 c, .num .i64 d]
  | .iv, Iv.mk (Rt.mk a b) (Rt.mk c d) => [.num .i64 a, .num .i64 b, .num .i64 c, .num .i64 d]
  | .raw, r => [.raw r]
  | .cur, Cur.mk r a s => [.raw r, .num .i64 a, .num .u64 s]

def decNum (k : IntKind) : List Sc → Option Int
  | [.num k' n] => match sameK k' k with
    | true => some n
    | false => none
  | _ => none

def decBool : List Sc → Option Bool
  | [.bool b] => some b
  | [.lit b] => some b
  | _ => none

def decStr : List Sc → Option ByteArray
  | [.str s] => some s
  | _ => none

def decRat : List Sc → Option Rt
  | [.num .i64 a, .num .i64 b] => some (Rt.mk a b)
  | _ => none

def decPt : List Sc → Option Pt
  | [.num .i64 a, .num .i64 b, .num .i64 c, .num .i64 d] => some (Pt.mk (Rt.mk a b) (Rt.mk c d))
  | _ => none

def decIv : List Sc → Option Iv
  | [.num .i64 a, .num .i64 b, .num .i64 c, .num .i64 d] => some (Iv.mk (Rt.mk a b) (Rt.mk c d))
  | _ => none

def decRaw : List Sc → Option Raw
  | [.raw r] => some r
  | _ => none

def decCur : List Sc → Option Cur
  | [.raw r, .num .i64 a, .num .u64 s] => some (Cur.mk r a s)
  | _ => none

def VK.dec : (k : VK) → List Sc → Option k.ty
  | .num k, cs => decNum k cs
  | .bool, cs => decBool cs
  | .str, cs => decStr cs
  | .rat, cs => decRat cs
  | .pt, cs => decPt cs
  | .iv, cs => decIv cs
  | .raw, cs => decRaw cs
  | .cur, cs => decCur cs

/-- The same list at another name of its kind. -/
def VK.castL : (k k' : VK) → List k.ty → Option (List k'.ty)
  | .num a, .num b, xs => match sameK a b with | true => some xs | false => none
  | .bool, .bool, xs => some xs
  | .str, .str, xs => some xs
  | .rat, .rat, xs => some xs
  | .pt, .pt, xs => some xs
  | .iv, .iv, xs => some xs
  | .raw, .raw, xs => some xs
  | .cur, .cur, xs => some xs
  | _, _, _ => none

def VK.castF (α : Type) : (k k' : VK) → (k.ty → α) → Option (k'.ty → α)
  | .num a, .num b, f => match sameK a b with | true => some f | false => none
  | .bool, .bool, f => some f
  | .str, .str, f => some f
  | .rat, .rat, f => some f
  | .pt, .pt, f => some f
  | .iv, .iv, f => some f
  | .raw, .raw, f => some f
  | .cur, .cur, f => some f
  | _, _, _ => none

def VK.castF2 (α : Type) : (k k' : VK) → (k.ty → k.ty → α) → Option (k'.ty → k'.ty → α)
  | .num a, .num b, f => match sameK a b with | true => some f | false => none
  | .bool, .bool, f => some f
  | .str, .str, f => some f
  | .rat, .rat, f => some f
  | .pt, .pt, f => some f
  | .iv, .iv, f => some f
  | .raw, .raw, f => some f
  | .cur, .cur, f => some f
  | _, _, _ => none

def eqRt (a b : Rt) : Bool := decide (a = b)
def eqIv (a b : Iv) : Bool := decide (a = b)
def eqPt (a b : Pt) : Bool := decide (a = b)

/-- an element; by recursion, so that it stays folded where the list is not known -/
def getA {α : Type} (d : α) : List α → Nat → α
  | [], _ => d
  | x :: r, i => match i with
    | 0 => x
    | i + 1 => getA d r i

theorem getA_eq {α : Type} (d : α) : ∀ (l : List α) (i : Nat), getA d l i = l.getD i d
  | [], i => by simp [getA]
  | x :: r, 0 => by simp [getA]
  | x :: r, i + 1 => by simp [getA, getA_eq d r i]

def sval (ag : Bool) (cs : List Sc) : SV :=
  match ag, cs with
  | true, cs => .ag cs
  | false, [s] => .sc s
  | _, _ => .sc .any

inductive Ob where
  | box (t : Nat) (cs : List Sc)
  | row (e : Nat) (k : VK) (xs : List k.ty)
  | view (k : VK) (xs : List k.ty)
  | rbox (t : Nat) (cs : List Sc)
  | part (k : VK) (xs : List k.ty)

structure St where
  fr : Nat → SV
  hp : Nat → Option Ob
  ids : Nat → Bool

def upd {α : Type} (f : Nat → α) (k : Nat) (v : α) : Nat → α := fun j => match Nat.beq j k with | true => v | false => f j

/-- An object, and whether it is there for the first time. -/
structure Up where
  id : Nat
  new : Bool
  ob : Option Ob

def updAll (h : Nat → Option Ob) : List Up → Nat → Option Ob
  | [] => h
  | u :: r => updAll (upd h u.id u.ob) r

def updI (f : Nat → Bool) : List Up → Nat → Bool
  | [] => f
  | u :: r => updI (upd f u.id true) r

def St.put (st : St) (d : Option Nat) (v : SV) (us : List Up) : St :=
  match d with
  | some d => ⟨upd st.fr d v, updAll st.hp us, updI st.ids us⟩
  | none => ⟨st.fr, updAll st.hp us, updI st.ids us⟩

/-- The state behind the updates, and then. -/
def putU (fr : Nat → SV) (hp : Nat → Option Ob) (ids : Nat → Bool) (us : List Up) (K : St → Prop) : Prop :=
  List.rec (motive := fun _ => (Nat → Option Ob) → (Nat → Bool) → Prop) (fun hp ids => K ⟨fr, hp, ids⟩)
    (fun u _ ih hp ids => match u with | ⟨i, _, o⟩ => ih (upd hp i o) (upd ids i true)) us hp ids
theorem putU_nil (fr : Nat → SV) (hp : Nat → Option Ob) (ids : Nat → Bool) (K : St → Prop) : putU fr hp ids [] K = K ⟨fr, hp, ids⟩ := rfl
theorem putU_cons (fr : Nat → SV) (hp : Nat → Option Ob) (ids : Nat → Bool) (i : Nat) (b : Bool) (o : Option Ob) (r : List Up) (K : St → Prop) : putU fr hp ids (⟨i, b, o⟩ :: r) K = putU fr (upd hp i o) (upd ids i true) r K := rfl

def putK (st : St) (d : Option Nat) (v : SV) (us : List Up) (K : St → Prop) : Prop :=
  match st, d with
  | ⟨fr, hp, ids⟩, some d => putU (upd fr d v) hp ids us K
  | ⟨fr, hp, ids⟩, none => putU fr hp ids us K

/-- What is new is new, what is not is known. -/
def okUps (ids : Nat → Bool) : List Up → Bool
  | [] => true
  | u :: r => match ids u.id, u.new with
    | true, false => okUps ids r
    | false, true => okUps (upd ids u.id true) r
    | _, _ => false

/-! forcing: so that what is stored is a value and not a computation -/

def Sc.force (s : Sc) (K : Sc → Prop) : Prop :=
  match s with
  | .num k n => K (.num k n)
  | .lit b => match b with | true => K (.lit true) | false => K (.lit false)
  | .bool b => K (.bool b)
  | .str s => K (.str s)
  | .ref i o => K (.ref i o)
  | .eref i j o => K (.eref i j o)
  | .vw i o l => K (.vw i o l)
  | .own i => K (.own i)
  | .nil => K .nil
  | .fn f c => K (.fn f c)
  | .und => K .und
  | .any => K .any
  | .clo i => K (.clo i)
  | .raw r => K (.raw r)

def forceL (l : List Sc) (K : List Sc → Prop) : Prop :=
  List.rec (motive := fun _ => (List Sc → Prop) → Prop) (fun K => K []) (fun s _ ih K => s.force fun s => ih fun r => K (s :: r)) l K
theorem forceL_cons (s : Sc) (r : List Sc) (K : List Sc → Prop) : forceL (s :: r) K = s.force fun s => forceL r fun r => K (s :: r) := rfl

def forceT (l : List (Bool × List Sc)) (K : List (Bool × List Sc) → Prop) : Prop :=
  List.rec (motive := fun _ => (List (Bool × List Sc) → Prop) → Prop) (fun K => K [])
    (fun p _ ih K => match p with
      | (true, l) => forceL l fun l => ih fun r => K ((true, l) :: r)
      | (false, l) => forceL l fun l => ih fun r => K ((false, l) :: r)) l K
theorem forceT_true (l : List Sc) (r : List (Bool × List Sc)) (K : List (Bool × List Sc) → Prop) : forceT ((true, l) :: r) K = forceL l fun l => forceT r fun r => K ((true, l) :: r) := rfl
theorem forceT_false (l : List Sc) (r : List (Bool × List Sc)) (K : List (Bool × List Sc) → Prop) : forceT ((false, l) :: r) K = forceL l fun l => forceT r fun r => K ((false, l) :: r) := rfl

def SV.force (v : SV) (K : SV → Prop) : Prop :=
  match v with
  | .sc s => s.force fun s => K (.sc s)
  | .ag cs => forceL cs fun cs => K (.ag cs)
  | .tp vs => forceT vs fun vs => K (.tp vs)

def forceU (l : List Up) (K : List Up → Prop) : Prop :=
  List.rec (motive := fun _ => (List Up → Prop) → Prop) (fun K => K [])
    (fun u _ ih K => match u with
      | ⟨i, b, none⟩ => ih fun r => K (⟨i, b, none⟩ :: r)
      | ⟨i, b, some (.box t cs)⟩ => forceL cs fun cs => ih fun r => K (⟨i, b, some (.box t cs)⟩ :: r)
      | ⟨i, b, some (.row e k xs)⟩ => ih fun r => K (⟨i, b, some (.row e k xs)⟩ :: r)
      | ⟨i, b, some (.view k xs)⟩ => ih fun r => K (⟨i, b, some (.view k xs)⟩ :: r)
      | ⟨i, b, some (.part k xs)⟩ => ih fun r => K (⟨i, b, some (.part k xs)⟩ :: r)
      | ⟨i, b, some (.rbox t cs)⟩ => forceL cs fun cs => ih fun r => K (⟨i, b, some (.rbox t cs)⟩ :: r)) l K
theorem forceU_none (i : Nat) (b : Bool) (r : List Up) (K : List Up → Prop) : forceU (⟨i, b, none⟩ :: r) K = forceU r fun r => K (⟨i, b, none⟩ :: r) := rfl
theorem forceU_box (i : Nat) (b : Bool) (t : Nat) (cs : List Sc) (r : List Up) (K : List Up → Prop) : forceU (⟨i, b, some (.box t cs)⟩ :: r) K = forceL cs fun cs => forceU r fun r => K (⟨i, b, some (.box t cs)⟩ :: r) := rfl
theorem forceU_rbox (i : Nat) (b : Bool) (t : Nat) (cs : List Sc) (r : List Up) (K : List Up → Prop) : forceU (⟨i, b, some (.rbox t cs)⟩ :: r) K = forceL cs fun cs => forceU r fun r => K (⟨i, b, some (.rbox t cs)⟩ :: r) := rfl
theorem forceU_row (i : Nat) (b : Bool) (e : Nat) (k : VK) (xs : List k.ty) (r : List Up) (K : List Up → Prop) : forceU (⟨i, b, some (.row e k xs)⟩ :: r) K = forceU r fun r => K (⟨i, b, some (.row e k xs)⟩ :: r) := rfl
theorem forceU_view (i : Nat) (b : Bool) (k : VK) (xs : List k.ty) (r : List Up) (K : List Up → Prop) : forceU (⟨i, b, some (.view k xs)⟩ :: r) K = forceU r fun r => K (⟨i, b, some (.view k xs)⟩ :: r) := rfl
theorem forceU_part (i : Nat) (b : Bool) (k : VK) (xs : List k.ty) (r : List Up) (K : List Up → Prop) : forceU (⟨i, b, some (.part k xs)⟩ :: r) K = forceU r fun r => K (⟨i, b, some (.part k xs)⟩ :: r) := rfl

/-- A fact that is asked, kept from being opened. -/
structure Lf (p : Prop) : Prop where
  out : p

/-- All of these hold, and then. -/
def andAll (l : List Prop) (q : Prop) : Prop := List.rec (motive := fun _ => Prop) q (fun p _ ih => Lf p ∧ ih) l

/-- What can be stored: a value that is known. -/
def knownC : List Sc → Bool
  | [] => true
  | .any :: _ => false
  | .und :: _ => false
  | .clo _ :: _ => false
  | _ :: r => knownC r

def knownS : SV → Bool
  | .sc s => knownC [s]
  | .ag cs => knownC cs
  | .tp _ => false

/-! operands -/

def evC : Value → SV
  | .int k n => .sc (.num k n)
  | .bool b => .sc (.lit b)
  | .string s => .sc (.str s)
  | .slice none 0 0 => .sc .nil
  | _ => .sc .any

def ev (fr : Nat → SV) : Operand → SV
  | .tmp t => fr t
  | .const v => evC v
  | .func f => .sc (.fn f [])
  | .global _ => .sc .any

def cellsS : SV → List Sc
  | .sc s => [s]
  | .ag cs => cs
  | .tp _ => []

/-- What is known of a type. -/
structure Ty where
  size : Nat
  bytes : Nat
  agg : Bool
  zero : List Sc
  offs : List (Nat × Nat)
  elem : Option (Nat × VK)
  kind : Option VK

abbrev Res := Option (List Prop × SV × List Up)

def inI64 (n : Int) : Prop := -9223372036854775808 ≤ n ∧ n ≤ 9223372036854775807

def arith (k : IntKind) (n : Int) : Res :=
  match k with
  | .i64 => some ([inI64 n], .sc (.num .i64 n), [])
  | k => some ([], .sc (.num k (k.wrap n)), [])

def numAct (op : BinOp) (k : IntKind) (a b : Int) : Res :=
  match op with
  | .add => arith k (a + b)
  | .sub => arith k (a - b)
  | .mul => arith k (a * b)
  | .quo => match k with
    | .i64 => some ([b ≠ 0, inI64 (a.tdiv b)], .sc (.num .i64 (a.tdiv b)), [])
    | k => some ([b ≠ 0], .sc (.num k (k.wrap (a.tdiv b))), [])
  | .rem => some ([b ≠ 0], .sc (.num k (a.tmod b)), [])
  | .eql => some ([], .sc (.bool (a == b)), [])
  | .neq => some ([], .sc (.bool (a != b)), [])
  | .lss => some ([], .sc (.bool (decide (a < b))), [])
  | .leq => some ([], .sc (.bool (decide (a ≤ b))), [])
  | .gtr => some ([], .sc (.bool (decide (b < a))), [])
  | .geq => some ([], .sc (.bool (decide (b ≤ a))), [])
  | _ => none

def asB : SV → Option Bool
  | .sc (.bool b) => some b
  | .sc (.lit b) => some b
  | _ => none

def eqAct (op : BinOp) (b : Bool) : Res :=
  match op with
  | .eql => some ([], .sc (.bool b), [])
  | .neq => some ([], .sc (.bool (!b)), [])
  | _ => none

def binAct (kd : Option VK) (op : BinOp) (x y : SV) : Res :=
  match x, y with
  | .sc (.num k a), .sc (.num k' b) =>
    match sameK k k' with
    | true => numAct op k a b
    | false => none
  | .ag xs, .ag ys =>
    match kd with
    | some .rat => match decRat xs, decRat ys with
      | some a, some b => eqAct op (eqRt a b)
      | _, _ => none
    | some .iv => match decIv xs, decIv ys with
      | some a, some b => eqAct op (eqIv a b)
      | _, _ => none
    | some .pt => match decPt xs, decPt ys with
      | some a, some b => eqAct op (eqPt a b)
      | _, _ => none
    | _ => none
  | .sc (.str a), .sc (.str b) => match op with
    | .add => some ([a.size + b.size ≤ 9223372036854775807], .sc (.str (a ++ b)), [])
    | op => eqAct op (a.toList == b.toList)
  | x, y => match kd, asB x, asB y with
    | some .bool, some a, some b => eqAct op (a == b)
    | _, _, _ => none

def pickAct (c x y : SV) : Res :=
  match c with
  | .sc (.lit true) => some ([], x, [])
  | .sc (.lit false) => some ([], y, [])
  | .sc (.bool b) =>
    match asB x, asB y with
    | some x, some y => some ([], .sc (.bool (cond b x y)), [])
    | some x, none => some ([b = true], .sc (.bool x), [])
    | none, some y => some ([b = false], .sc (.bool y), [])
    | none, none => none
  | _ => none

def setParts (cells : List Sc) : List (Nat × List Sc) → List Sc
  | [] => cells
  | (i, cs) :: r => setParts (cells.take i ++ cs ++ cells.drop (i + cs.length)) r

/-- The list that a slice reads as. -/
def listOf (hp : Nat → Option Ob) (k : VK) : SV → Option (List k.ty)
  | .sc .nil => some []
  | .sc (.own id) => match hp id with
    | some (.row _ k' xs) => VK.castL k' k xs
    | _ => none
  | .sc (.vw id off len) => match hp id with
    | some (.view k' xs) => (VK.castL k' k xs).map fun xs => (xs.drop off).take len
    | some (.part k' xs) => (VK.castL k' k xs).map fun xs => (xs.drop off).take len
    | some (.row _ k' xs) => (VK.castL k' k xs).map fun xs => (xs.drop off).take len
    | _ => none
  | _ => none

/-! ### contracts -/

inductive AK where
  | val (k : VK)
  | list (k : VK)
  | lift (k : VK)
  | cell (t : Nat) (k : VK)
  | lcell (t : Nat) (k : VK)
  | own (e : Nat) (k : VK)
  | mrow (e : Nat) (k : VK)
  | mlift (e : Nat) (k : VK)
  | clo (k : VK)
  | cmp (k : VK)

abbrev AK.ty : AK → Type
  | .val k => k.ty
  | .list k => List k.ty
  | .lift k => List k.ty
  | .cell _ k => k.ty
  | .lcell _ k => List k.ty
  | .own _ k => List k.ty
  | .mrow _ k => List k.ty
  | .mlift _ k => List k.ty
  | .clo k => (k.ty → Prop) × (k.ty → Bool)
  | .cmp k => (k.ty → k.ty → Prop) × (k.ty → k.ty → Int)

def AKs : List AK → Type
  | [] => Unit
  | a :: r => a.ty × AKs r

def AKo : List AK → Type
  | [] => Unit
  | .cell _ k :: r => k.ty × AKo r
  | .mrow _ k :: r => List k.ty × AKo r
  | .mlift _ k :: r => List k.ty × AKo r
  | _ :: r => AKo r

inductive RK where
  | val (k : VK)
  | skip
  | list (e : Nat) (k : VK)
  | lift (e : Nat) (k : VK)
  | part (k : VK)

abbrev RK.ty : RK → Type
  | .val k => k.ty
  | .skip => Unit
  | .list _ k => List k.ty
  | .lift _ k => List k.ty
  | .part k => List k.ty

def RKs : List RK → Type
  | [] => Unit
  | a :: r => a.ty × RKs r

structure Eff (ks : List AK) (rs : List RK) where
  pre : List Prop
  res : RKs rs
  out : AKo ks

structure Sig where
  f : Nat
  ks : List AK
  rs : List RK
  eff : AKs ks → Eff ks rs

def findSig (f : Nat) : List Sig → Option Sig
  | [] => none
  | s :: r => match Nat.beq f s.f with | true => some s | false => findSig f r

def boxOf (hp : Nat → Option Ob) : SV → Option (Nat × List Sc)
  | .sc (.ref id 0) => match hp id with
    | some (.box t cs) => some (t, cs)
    | _ => none
  | _ => none

/-- the same, where the box may be one that is only read -/
def rboxOf (hp : Nat → Option Ob) : SV → Option (Nat × List Sc)
  | .sc (.ref id 0) => match hp id with
    | some (.box t cs) => some (t, cs)
    | some (.rbox t cs) => some (t, cs)
    | _ => none
  | _ => none

/-- The captured variables of a closure, all plain. -/
def capsOf (hp : Nat → Option Ob) : (ks : List AK) → List (Nat × Nat) → Option (AKs ks × AKo ks)
  | [], [] => some ((), ())
  | .cell t k :: ks, (id, off) :: r =>
    match boxOf hp (.sc (.ref id off)) with
    | some (t', cs) => match Nat.beq t' t, k.dec cs, capsOf hp ks r with
        | true, some x, some (y, o) => some ((x, y), (x, o))
        | _, _, _ => none
    | none => none
  | .lcell t k :: ks, (id, off) :: r =>
    match boxOf hp (.sc (.ref id off)) with
    | some (t', [s]) => match Nat.beq t' t, listOf hp k (.sc s), capsOf hp ks r with
        | true, some x, some (y, o) => some ((x, y), o)
        | _, _, _ => none
    | _ => none
  | _, _ => none

def elemB (j : Nat) : List Nat → Bool
  | [] => false
  | i :: r => match Nat.beq j i with
    | true => true
    | false => elemB j r

def distB : List Nat → Bool
  | [] => true
  | i :: r => match elemB i r with
    | true => false
    | false => distB r

def andL : List Prop → Prop
  | [] => True
  | p :: r => p ∧ andL r

/-- A function that is handed in: where it may be called, and what it returns. -/
inductive CloE where
  | clo (k : VK) (D : k.ty → Prop) (p : k.ty → Bool)
  | cmp (k : VK) (D : k.ty → k.ty → Prop) (p : k.ty → k.ty → Int)
  | raw (r : Raw)

def lookC : Nat → List (Nat × CloE) → Option CloE
  | _, [] => none
  | j, (i, e) :: r => match Nat.beq j i with
    | true => some e
    | false => lookC j r

/-- Tables of the library that a seat's contracts may read: their integers' kind, their integers, their blocks. -/
def TABS : List (IntKind × List Int × Nat) := []

/-- Functions that are handed one function more, behind the others: its number, that function's, how many stand ahead; their contracts name what it has captured in its place. -/
def PACK : List (Nat × Nat × Nat) := [(221, 222, 1)]
def lookP : Nat → List (Nat × Nat × Nat) → Option (Nat × Nat)
  | _, [] => none
  | j, (i, v) :: r => match Nat.beq j i with
    | true => some v
    | false => lookP j r
def noPk (f : Nat) : Bool := match lookP f PACK with
  | none => true
  | some _ => false
def refsOf : List SV → Option (List (Nat × Nat))
  | [] => some []
  | .sc (.ref i o) :: r => match refsOf r with
    | some l => some ((i, o) :: l)
    | none => none
  | _ => none
/-- what the slots hold -/
def packS (f : Nat) (svs : List SV) : List SV := match lookP f PACK with
  | none => svs
  | some (g, m) => match refsOf (svs.drop m) with
    | some cs => svs.take m ++ [.sc (.fn g cs)]
    | none => svs.take m ++ [.sc .any]
/-- what a contract names -/
def unpS (f : Nat) (svs : List SV) : Option (List SV) := match lookP f PACK with
  | none => some svs
  | some (g, m) => match svs.drop m with
    | [.sc (.fn g' cs)] => match Nat.beq g' g with
      | true => some (svs.take m ++ cs.map fun p => .sc (.ref p.1 p.2))
      | false => none
    | _ => none

/-- The slice is one that was handed in. -/
def RawIn (C : List (Nat × CloE)) (r : Raw) : Prop := ∃ id, lookC id C = some (.raw r)

def rawPs (C : List (Nat × CloE)) : (ks : List AK) → AKs ks → List Prop
  | [], _ => []
  | .val .raw :: ks, (x, y) => RawIn C x :: rawPs C ks y
  | .cell _ .cur :: ks, (x, y) => RawIn C x.r :: rawPs C ks y
  | _ :: ks, (_, y) => rawPs C ks y

def noRaw : List AK → Bool
  | [] => true
  | .val .raw :: _ => false
  | .cell _ .cur :: _ => false
  | _ :: ks => noRaw ks

def cloOf (Γ : List Sig) (C : List (Nat × CloE)) (hp : Nat → Option Ob) (k : VK) : SV → Option ((k.ty → Prop) × (k.ty → Bool))
  | .sc (.clo id) => match lookC id C with
    | some (.clo k' D p) => match VK.castF Prop k' k D, VK.castF Bool k' k p with
      | some d, some q => some (d, q)
      | _, _ => none
    | _ => none
  | .sc (.fn f cap) => match findSig f Γ with
    | some ⟨_, .val k' :: ks, [.val .bool], eff⟩ =>
      match (distB (cap.map (·.1)) && noRaw (.val k' :: ks)) && noPk f, capsOf hp ks cap with
      | true, some (y, o) => match VK.castF Prop k' k (fun x => andL (eff (x, y)).pre ∧ (eff (x, y)).out = o), VK.castF Bool k' k (fun x => (eff (x, y)).res.1) with
        | some d, some p => some (d, p)
        | _, _ => none
      | _, _ => none
    | _ => none
  | _ => none

def cmpOf (Γ : List Sig) (C : List (Nat × CloE)) (k : VK) : SV → Option ((k.ty → k.ty → Prop) × (k.ty → k.ty → Int))
  | .sc (.clo id) => match lookC id C with
    | some (.cmp k' D p) => match VK.castF2 Prop k' k D, VK.castF2 Int k' k p with
      | some d, some q => some (d, q)
      | _, _ => none
    | _ => none
  | .sc (.fn f []) => match findSig f Γ with
    | some ⟨_, [.val .rat, .val .rat], [.val (.num .i64)], eff⟩ =>
      match noPk f, VK.castF2 Prop .rat k (fun x y => andL (eff (x, y, ())).pre), VK.castF2 Int .rat k (fun x y => (eff (x, y, ())).res.1) with
      | true, some d, some p => some (d, p)
      | _, _, _ => none
    | _ => none
  | _ => none

def decV (k : VK) (v : SV) : Option k.ty :=
  match k.isAg, v with
  | true, .ag cs => k.dec cs
  | false, .sc s => k.dec [s]
  | _, _ => none

def argOf (Γ : List Sig) (C : List (Nat × CloE)) (hp : Nat → Option Ob) : (a : AK) → SV → Option a.ty
  | .val k, v => decV k v
  | .list k, v => listOf hp k v
  | .lift k, .ag [s] => listOf hp k (.sc s)
  | .lift _, _ => none
  | .cell t k, v => match boxOf hp v with
    | some (t', cs) => match Nat.beq t' t with | true => k.dec cs | false => none
    | none => none
  | .lcell t k, v => match rboxOf hp v with
    | some (t', [s]) => match Nat.beq t' t with | true => listOf hp k (.sc s) | false => none
    | _ => none
  | .own e k, v => match v with
    | .sc .nil => some []
    | .sc (.own id) => match hp id with
      | some (.row e' k' xs) => match Nat.beq e' e with | true => VK.castL k' k xs | false => none
      | _ => none
    | _ => none
  | .mrow e k, v => match v with
    | .sc .nil => some []
    | .sc (.own id) => match hp id with
      | some (.row e' k' xs) => match Nat.beq e' e with | true => VK.castL k' k xs | false => none
      | _ => none
    | _ => none
  | .mlift e k, v => match v with
    | .ag [.nil] => some []
    | .ag [.own id] => match hp id with
      | some (.row e' k' xs) => match Nat.beq e' e with | true => VK.castL k' k xs | false => none
      | _ => none
    | _ => none
  | .clo k, v => cloOf Γ C hp k v
  | .cmp k, v => cmpOf Γ C k v

def argsOf (Γ : List Sig) (C : List (Nat × CloE)) (hp : Nat → Option Ob) : (ks : List AK) → List SV → Option (AKs ks)
  | [], [] => some ()
  | a :: ks, v :: vs => match argOf Γ C hp a v, argsOf Γ C hp ks vs with
    | some x, some y => some (x, y)
    | _, _ => none
  | _, _ => none

/-- What a call does to the objects that it is handed. -/
def outsOf : (ks : List AK) → List SV → AKo ks → List Up
  | [], _, _ => []
  | .cell t k :: ks, v :: vs, (o, o') => match v with
    | .sc (.ref id _) => ⟨id, false, some (.box t (k.enc o))⟩ :: outsOf ks vs o'
    | _ => outsOf ks vs o'
  | .mrow e k :: ks, v :: vs, (o, o') => match v with
    | .sc (.own id) => ⟨id, false, some (.row e k o)⟩ :: outsOf ks vs o'
    | _ => outsOf ks vs o'
  | .mlift e k :: ks, v :: vs, (o, o') => match v with
    | .ag [.own id] => ⟨id, false, some (.row e k o)⟩ :: outsOf ks vs o'
    | _ => outsOf ks vs o'
  | .own _ _ :: ks, v :: vs, o => match v with
    | .sc (.own id) => ⟨id, false, none⟩ :: outsOf ks vs o
    | _ => outsOf ks vs o
  | .val _ :: ks, _ :: vs, o => outsOf ks vs o
  | .list _ :: ks, _ :: vs, o => outsOf ks vs o
  | .lift _ :: ks, _ :: vs, o => outsOf ks vs o
  | .lcell _ _ :: ks, _ :: vs, o => outsOf ks vs o
  | .clo _ :: ks, _ :: vs, o => outsOf ks vs o
  | .cmp _ :: ks, _ :: vs, o => outsOf ks vs o
  | _ :: _, [], _ => []

/-- The results: as values, and the objects that they bring. -/
def resOf (b : Nat) : (rs : List RK) → RKs rs → List (Bool × List Sc) × List Up
  | [], _ => ([], [])
  | .val k :: rs, (x, y) => match resOf (b + 1) rs y with
    | (vs, us) => ((k.isAg, k.enc x) :: vs, us)
  | .skip :: rs, (_, y) => match resOf (b + 1) rs y with
    | (vs, us) => ((false, [.any]) :: vs, us)
  | .list e k :: rs, (x, y) => match resOf (b + 1) rs y with
    | (vs, us) => ((false, [.own b]) :: vs, ⟨b, true, some (.row e k x)⟩ :: us)
  | .lift e k :: rs, (x, y) => match resOf (b + 1) rs y with
    | (vs, us) => ((true, [.own b]) :: vs, ⟨b, true, some (.row e k x)⟩ :: us)
  | .part k :: rs, ((x : List k.ty), y) => match resOf (b + 1) rs y with
    | (vs, us) => ((false, [.vw b 0 x.length]) :: vs, ⟨b, true, some (.part k x)⟩ :: us)

def pack : List (Bool × List Sc) → SV
  | [(ag, cs)] => sval ag cs
  | vs => .tp vs

/-- Where the objects of a call's results are numbered from. -/
def resBase (d : Option Nat) : Nat := 200000 + 10 * d.getD 0

def idsSc : Sc → List Nat
  | .ref i _ => [i]
  | .eref i _ _ => [i]
  | .vw i _ _ => [i]
  | .own i => [i]
  | .fn _ c => c.map (·.1)
  | .clo i => [i]
  | _ => []

def idsSV : SV → List Nat
  | .sc s => idsSc s
  | .ag cs => cs.flatMap idsSc
  | .tp vs => vs.flatMap fun p => p.2.flatMap idsSc

def boxIds (hp : Nat → Option Ob) (i : Nat) : List Nat :=
  match hp i with
  | some (.box _ cs) => cs.flatMap idsSc
  | some (.rbox _ cs) => cs.flatMap idsSc
  | _ => []

/-- the objects that a call only reads -/
def rdIds (hp : Nat → Option Ob) : List AK → List SV → List Nat
  | .list _ :: ks, v :: vs => idsSV v ++ rdIds hp ks vs
  | .lift _ :: ks, v :: vs => idsSV v ++ rdIds hp ks vs
  | .lcell _ _ :: ks, v :: vs => idsSV v ++ (idsSV v).flatMap (boxIds hp) ++ rdIds hp ks vs
  | .clo _ :: ks, v :: vs => idsSV v ++ (idsSV v).flatMap (boxIds hp) ++ rdIds hp ks vs
  | .val _ :: ks, _ :: vs => rdIds hp ks vs
  | .cell _ _ :: ks, _ :: vs => rdIds hp ks vs
  | .own _ _ :: ks, _ :: vs => rdIds hp ks vs
  | .mrow _ _ :: ks, _ :: vs => rdIds hp ks vs
  | .mlift _ _ :: ks, _ :: vs => rdIds hp ks vs
  | .cmp _ :: ks, _ :: vs => rdIds hp ks vs
  | _, _ => []

def disjB : List Nat → List Nat → Bool
  | [], _ => true
  | i :: r, l => match elemB i l with
    | true => false
    | false => disjB r l

def callAct (Γ : List Sig) (C : List (Nat × CloE)) (d : Option Nat) (f : Nat) (hp : Nat → Option Ob) (args : List SV) : Res :=
  match findSig f Γ, unpS f args with
  | some ⟨_, ks, rs, eff⟩, some args => match argsOf Γ C hp ks args with
    | some x => match eff x with
      | ⟨pre, res, out⟩ => match resOf (resBase d) rs res with
        | (vs, us) => match disjB ((outsOf ks args out).map (·.id)) (rdIds hp ks args) with
          | true => some (rawPs C ks x ++ pre, pack vs, outsOf ks args out ++ us)
          | false => none
    | none => none
  | _, _ => none

/-! ### the operations -/

structure Env where
  T : Nat → Option Ty
  Γ : List Sig
  n : Nat
  C : List (Nat × CloE)
  wd : Option Nat

/-- the slot of the one sum that may wrap -/
def wdHit : Option Nat → Option Nat → Bool
  | none, _ => false
  | some _, none => false
  | some a, some b => Nat.beq a b

def wrapAct : BinOp → SV → SV → Res
  | .add, .sc (.num .i64 a), .sc (.num .i64 b) => some ([], .sc (.num .i64 (IntKind.i64.wrap (a + b))), [])
  | _, _, _ => none

/-- a call of a function that has been handed in -/
def cloAct (C : List (Nat × CloE)) (id : Nat) (args : List SV) : Res :=
  match lookC id C, args with
  | some (.clo k D p), [v] => match decV k v with
    | some x => some ([D x], .sc (.bool (p x)), [])
    | none => none
  | some (.cmp k D p), [v, u] => match decV k v, decV k u with
    | some x, some y => some ([D x y], .sc (.num .i64 (p x y)), [])
    | _, _ => none
  | _, _ => none

def lenOf (ty : Ty) (hp : Nat → Option Ob) : SV → Option Nat
  | .sc .nil => match ty.elem with
    | some _ => some 0
    | none => none
  | .sc (.own id) => match ty.elem, hp id with
    | some _, some (.row _ _ xs) => some xs.length
    | _, _ => none
  | .sc (.vw _ _ len) => match ty.elem with
    | some _ => some len
    | none => none
  | .sc (.str s) => match ty.kind with
    | some .str => some s.size
    | _ => none
  | .sc (.raw r) => match ty.elem with
    | some _ => some r.bs.length
    | none => none
  | _ => none

/-- The cells at an address. -/
def loadAct (ty : Ty) (hp : Nat → Option Ob) : SV → Res
  | .sc (.ref id off) => match hp id with
    | some (.box _ cs) => match Nat.ble (off + ty.size) cs.length with
      | true => some ([], sval ty.agg ((cs.drop off).take ty.size), [])
      | false => none
    | some (.rbox _ cs) => match Nat.ble (off + ty.size) cs.length with
      | true => some ([], sval ty.agg ((cs.drop off).take ty.size), [])
      | false => none
    | _ => none
  | .sc (.eref id i off) => match hp id with
    | some (.row _ k xs) => match Nat.ble (off + ty.size) k.size with
      | true => some ([i < xs.length], sval ty.agg (((k.enc (getA k.dflt xs i)).drop off).take ty.size), [])
      | false => none
    | some (.view k xs) => match Nat.ble (off + ty.size) k.size with
      | true => some ([i < xs.length], sval ty.agg (((k.enc (getA k.dflt xs i)).drop off).take ty.size), [])
      | false => none
    | some (.part k xs) => match Nat.ble (off + ty.size) k.size with
      | true => some ([i < xs.length], sval ty.agg (((k.enc (getA k.dflt xs i)).drop off).take ty.size), [])
      | false => none
    | _ => none
  | _ => none

def storeAct (ty : Ty) (hp : Nat → Option Ob) (a v : SV) : Res :=
  match knownS v && Nat.beq (cellsS v).length ty.size, a with
  | true, .sc (.ref id off) => match hp id with
    | some (.box t cs) => match Nat.ble (off + ty.size) cs.length with
      | true => some ([], .sc .und, [⟨id, false, some (.box t (cs.take off ++ cellsS v ++ cs.drop (off + ty.size)))⟩])
      | false => none
    | _ => none
  | true, .sc (.eref id i off) => match hp id with
    | some (.row e k xs) => match Nat.ble (off + ty.size) k.size, k.dec ((k.enc (getA k.dflt xs i)).take off ++ cellsS v ++ (k.enc (getA k.dflt xs i)).drop (off + ty.size)) with
      | true, some x => some ([i < xs.length], .sc .und, [⟨id, false, some (.row e k (xs.set i x))⟩])
      | _, _ => none
    | _ => none
  | _, _ => none

def obKind (hp : Nat → Option Ob) (id : Nat) : Option VK :=
  match hp id with
  | some (.row _ k _) => some k
  | some (.view k _) => some k
  | some (.part k _) => some k
  | _ => none

/-- the byte at a place of a string -/
@[irreducible] def byteA (s : ByteArray) (n : Nat) : Int := ((s.data.toList.getD n 0).toNat : Int)
def strIndex (ty : Ty) (x i : SV) : Res :=
  match x, i with
  | .sc (.str s), .sc (.num _ n) => match ty.kind with
    | some .str => some ([0 ≤ n, n < s.size], .sc (.num .u8 (byteA s n.toNat)), [])
    | _ => none
  | _, _ => none
def indexAct (ty : Ty) (hp : Nat → Option Ob) (x : SV) (i : SV) : Res :=
  match x, i with
  | .sc (.own id), .sc (.num _ n) => match ty.elem, hp id with
    | some (_, k), some (.row _ k' xs) => match Nat.beq k'.size k.size with
      | true => some ([0 ≤ n, n < xs.length], .sc (.eref id n.toNat 0), [])
      | false => none
    | _, _ => none
  | .sc (.vw id off len), .sc (.num _ n) => match ty.elem, obKind hp id with
    | some (_, k), some k' => match Nat.beq k'.size k.size with
      | true => some ([0 ≤ n, n < len], .sc (.eref id (off + n.toNat) 0), [])
      | false => none
    | _, _ => none
  | _, _ => none

def bound (dflt : Nat) : Option SV → Option Int
  | none => some dflt
  | some (.sc (.num _ n)) => some n
  | _ => none

def sliceAct (ty : Ty) (hp : Nat → Option Ob) (x : SV) (lo hi : Option SV) : Res :=
  match x with
  | .sc (.own id) => match ty.elem, hp id with
    | some (_, k), some (.row _ k' xs) => match Nat.beq k'.size k.size, bound 0 lo, bound xs.length hi with
      | true, some l, some h => some ([0 ≤ l, l ≤ h, h ≤ xs.length], .sc (.vw id l.toNat (h.toNat - l.toNat)), [])
      | _, _, _ => none
    | _, _ => none
  | .sc (.vw id off len) => match ty.elem, obKind hp id with
    | some (_, k), some k' => match Nat.beq k'.size k.size, bound 0 lo, bound len hi with
      | true, some l, some h => some ([0 ≤ l, l ≤ h, h ≤ len], .sc (.vw id (off + l.toNat) (h.toNat - l.toNat)), [])
      | _, _, _ => none
    | _, _ => none
  | .sc (.str s) => match ty.kind, bound 0 lo, bound s.size hi with
    | some .str, some l, some h => some ([0 ≤ l, l ≤ h, h ≤ s.size], .sc (.str (s.extract l.toNat h.toNat)), [])
    | _, _, _ => none
  | _ => none

def decAll (k : VK) : List (List Sc) → Option (List k.ty)
  | [] => some []
  | c :: r => match k.dec c, decAll k r with
    | some x, some xs => some (x :: xs)
    | _, _ => none

def appendAct (T : Nat → Option Ty) (d : Option Nat) (hp : Nat → Option Ob) (t : Nat) (x y : SV) : Res :=
  match T t, d with
  | some ⟨_, _, _, _, _, some (e, k), _⟩, some d => match T e with
    | some te => match Nat.ble 1 te.bytes, listOf hp k y with
      | true, some ys => match x with
        | .sc .nil => some ([ys.length * te.bytes ≤ 140737488355328], .sc (.own d), [⟨d, true, some (.row e k ys)⟩])
        | .sc (.own id) => match hp id with
          | some (.row e' k' xs) => match Nat.beq e' e, VK.castL k' k xs with
            | true, some xs => some ([(xs.length + ys.length) * te.bytes ≤ 140737488355328], .sc (.own d), [⟨id, false, none⟩, ⟨d, true, some (.row e k (xs ++ ys))⟩])
            | _, _ => none
          | _ => none
        | _ => none
      | _, _ => none
    | none => none
  | _, _ => none

/-- clear(s[i:j]) -/
def clearAct (T : Nat → Option Ty) (hp : Nat → Option Ob) (t : Nat) (x : SV) : Res :=
  match T t with
  | some ty => match ty.elem, x with
    | some (e, k), .sc (.vw id off len) => match hp id, T e with
      | some (.row e' k' xs), some te => match Nat.beq k'.size k.size, k'.dec te.zero with
        | true, some z => some ([0 < len], .tp [], [⟨id, false, some (.row e' k' (xs.take off ++ List.replicate len z ++ xs.drop (off + len)))⟩])
        | _, _ => none
      | _, _ => none
    | _, _ => none
  | none => none

def capRefs : List SV → Option (List (Nat × Nat))
  | [] => some []
  | .sc (.ref i o) :: r => (capRefs r).map fun r => (i, o) :: r
  | _ => none

def partsOf (ty : Ty) (ρ : Operand → SV) : List (Nat × Operand) → Option (List (Nat × List Sc))
  | [] => some []
  | (i, x) :: r => match ty.offs[i]?, partsOf ty ρ r with
    | some (off, sz), some r => match knownS (ρ x) && Nat.beq (cellsS (ρ x)).length sz with | true => some ((off, cellsS (ρ x)) :: r) | false => none
    | _, _ => none

def elemsOf (ρ : Operand → SV) (k : Nat) : List (Nat × Operand) → Option (List (List Sc))
  | [] => some []
  | (i, x) :: r => match Nat.beq i k with | true => (elemsOf ρ (k + 1) r).map fun r => cellsS (ρ x) :: r | false => none

/-- the string of bytes -/
def bytesA (l : List Int) : ByteArray := l.foldl (fun r n => r.push (UInt8.ofNat n.toNat)) ByteArray.empty

def convAct (hp : Nat → Option Ob) (te tt : Ty) (x : SV) : Res :=
  match te.kind, tt.kind, listOf hp (.num .u8) x with
  | some (.num .u8), some .str, some ys => some ([], .sc (.str (bytesA ys)), [])
  | _, _, _ => none

def act (E : Env) (d : Option Nat) (ρ : Operand → SV) (hp : Nat → Option Ob) : Op → Res
  | .move x => some ([], ρ x, [])
  | .assign x => some ([], ρ x, [])
  | .pick c a b => pickAct (ρ c) (ρ a) (ρ b)
  | .alloc t => match E.T t, d with
    | some ty, some d => some ([], .sc (.ref d 0), [⟨d, true, some (.box t ty.zero)⟩])
    | _, _ => none
  | .box t x => match E.T t, d with
    | some ty, some d => match knownS (ρ x) && Nat.beq (cellsS (ρ x)).length ty.size with | true => some ([], .sc (.ref d 0), [⟨d, true, some (.box t (cellsS (ρ x)))⟩]) | false => none
    | _, _ => none
  | .build t ps => match E.T t with
    | some ty => match ty.offs, partsOf ty ρ ps.toList with
      | _ :: _, some parts => some ([], .ag (setParts ty.zero parts), [])
      | _, _ => none
    | none => none
  | .buildSlice t n ps => match E.T t, d with
    | some ⟨_, _, _, _, _, some (e, k), _⟩, some d => match elemsOf ρ 0 ps.toList with
      | some els => match Nat.beq els.length n && Nat.ble (n * k.size) 16777216, decAll k els with
          | true, some xs => some ([], .sc (.own d), [⟨d, true, some (.row e k xs)⟩])
          | _, _ => none
      | none => none
    | _, _ => none
  | .makeSlice t l c => match E.T t, d, ρ l, ρ c with
    | some ⟨_, _, _, _, _, some (e, k), _⟩, some d, .sc (.num _ n), .sc (.num _ m) => match E.T e with
      | some te => match Nat.ble 1 te.bytes, k.dec te.zero with
        | true, some z => some ([0 ≤ n, n = m, n.toNat * te.bytes ≤ 140737488355328], .sc (.own d), [⟨d, true, some (.row e k (List.replicate n.toNat z))⟩])
        | _, _ => none
      | none => none
    | _, _, _, _ => none
  | .load t x => match E.T t with
    | some ty => loadAct ty hp (ρ x)
    | none => none
  | .store t x y => match E.T t with
    | some ty => storeAct ty hp (ρ x) (ρ y)
    | none => none
  | .binOp op t x y _ => match E.T t with
    | some ty => match wdHit E.wd d with
      | true => wrapAct op (ρ x) (ρ y)
      | false => binAct ty.kind op (ρ x) (ρ y)
    | none => none
  | .unOp .neg _ x => match ρ x with
    | .sc (.num k n) => arith k (0 - n)
    | _ => none
  | .unOp .not _ x => match ρ x with
    | .sc (.bool b) => some ([], .sc (.bool (!b)), [])
    | .sc (.lit b) => some ([], .sc (.lit (!b)), [])
    | _ => none
  | .fieldAddr s x f => match E.T s with
    | some ty => match ty.offs[f]?, ρ x with
      | some (o, _), .sc (.ref id off) => some ([], .sc (.ref id (off + o)), [])
      | some (o, _), .sc (.eref id i off) => some ([], .sc (.eref id i (off + o)), [])
      | _, _ => none
    | none => none
  | .indexAddr t x i => match E.T t with
    | some ty => indexAct ty hp (ρ x) (ρ i)
    | none => none
  | .index t x i => match E.T t with
    | some ty => strIndex ty (ρ x) (ρ i)
    | none => none
  | .slice t x lo hi none => match E.T t with
    | some ty => sliceAct ty hp (ρ x) (lo.map ρ) (hi.map ρ)
    | none => none
  | .convert s t x => match E.T s, E.T t with
    | some ⟨_, _, _, _, _, some (e, _), _⟩, some tt => match E.T e with
      | some te => convAct hp te tt (ρ x)
      | none => none
    | some ⟨_, _, _, _, _, none, _⟩, some tt => match tt.kind, ρ x with
      | some (.num .u8), .sc (.num _ n) => some ([], .sc (.num .u8 (IntKind.u8.wrap n)), [])
      | _, _ => none
    | _, _ => none
  | .extract x i => match ρ x with
    | .tp vs => match vs[i]? with
      | some (ag, cs) => some ([], sval ag cs, [])
      | none => none
    | _ => none
  | .nilCheck x => match ρ x with
    | .sc (.ref id off) => some ([], .sc (.ref id off), [])
    | .sc (.eref id i off) => some ([], .sc (.eref id i off), [])
    | _ => none
  | .makeFunc (.func f) first caps => match first.toList, capRefs (caps.toList.map ρ) with
      | [], some cs => some ([], .sc (.fn f cs), [])
      | _, _ => none
  | .call c => match c.callee with
    | .value g => match ρ g with
      | .sc (.fn f caps) => callAct E.Γ E.C d f hp (c.args.toList.map ρ ++ caps.map fun p => .sc (.ref p.1 p.2))
      | .sc (.clo id) => cloAct E.C id (c.args.toList.map ρ)
      | _ => none
    | .builtin .len => match c.args.toList.map ρ, c.argTypes.toList with
      | [x], [t] => match E.T t with
        | some ty => match lenOf ty hp x with
          | some n => some ([], .sc (.num .i64 n), [])
          | none => none
        | none => none
      | _, _ => none
    | .builtin .append => match c.args.toList.map ρ, c.argTypes.toList with
      | [x, y], [t, u] => match Nat.beq t u with
        | true => appendAct E.T d hp t x y
        | false => none
      | _, _ => none
    | .builtin .clear => match c.args.toList.map ρ, c.argTypes.toList with
      | [x], [t] => clearAct E.T hp t x
      | _, _ => none
    | .builtin .max => match c.args.toList.map ρ with
      | [.sc (.num .i64 a), .sc (.num .i64 b)] => some ([], .sc (.num .i64 (if a < b then b else a)), [])
      | _ => none
    | .builtin .min => match c.args.toList.map ρ with
      | [.sc (.num .i64 a), .sc (.num .i64 b)] => some ([], .sc (.num .i64 (if b < a then b else a)), [])
      | _ => none
    | _ => none
  | _ => none

def dstOk (n : Nat) : Option Nat → Bool
  | none => true
  | some d => Nat.ble (d + 1) n

/-- ### what an operation may touch -/
structure Fp where
  r : List Nat
  w : List Nat

def subB : List Nat → List Nat → Bool
  | [], _ => true
  | i :: r, l => match elemB i l with
    | true => subB r l
    | false => false

def restrict (hp : Nat → Option Ob) (l : List Nat) : Nat → Option Ob := fun i => match elemB i l with | true => hp i | false => none

def vcOp (E : Env) (dst : Option Nat) (op : Op) (K : St → Prop) (st : St) : Prop :=
  match dstOk E.n dst, act E dst (ev st.fr) st.hp op with
  | true, some (ps, v, us) => match okUps st.ids us && distB (us.map (·.id)) with
    | true => andAll ps (v.force fun v => forceU us fun us => putK st dst v us K)
    | false => False
  | _, _ => False

def vcOpF (E : Env) (fp : Fp) (dst : Option Nat) (op : Op) (K : St → Prop) (st : St) : Prop :=
  match dstOk E.n dst, act E dst (ev st.fr) (restrict st.hp (fp.r ++ fp.w)) op with
  | true, some (ps, v, us) => match okUps st.ids us && distB (us.map (·.id)), subB (us.map (·.id)) fp.w with
    | true, true => andAll ps (v.force fun v => forceU us fun us => putK st dst v us K)
    | _, _ => False
  | _, _ => False

def gslot (ops : List Oper) (j : Nat) : Option Nat := match ops[j]? with
  | some o => o.dst
  | none => none

def skipK (n : Nat) (dst : Option Nat) (K : St → Prop) (st : St) : Prop :=
  match dstOk n dst with
  | true => putK st dst (.sc .und) [] K
  | false => False

/-- An operation under its guard. -/
def vcG (n : Nat) (all : List Oper) (guard : Option (Nat × Bool)) (dst : Option Nat) (run : (St → Prop) → St → Prop) (K : St → Prop) (st : St) : Prop :=
  match guard with
  | none => run K st
  | some (j, want) => match gslot all j with
    | some g => match st.fr g with
      | .sc (.lit b) => match b, want with
        | true, true => run K st
        | false, false => run K st
        | _, _ => skipK n dst K st
      | .sc .und => skipK n dst K st
      | .sc (.bool b) => (b = want → run K st) ∧ (b = !want → skipK n dst K st)
      | _ => False
    | none => False

/-- An operation under its guard, where the way that is gone is written into the guard's slot. -/
def vcG2 (n : Nat) (all : List Oper) (guard : Option (Nat × Bool)) (dst : Option Nat) (run : (St → Prop) → St → Prop) (K : St → Prop) (st : St) : Prop :=
  match guard with
  | none => run K st
  | some (j, want) => match gslot all j with
    | some g => match st.fr g with
      | .sc (.lit b) => match b, want with
        | true, true => run K st
        | false, false => run K st
        | _, _ => skipK n dst K st
      | .sc .und => skipK n dst K st
      | .sc (.bool b) => match st, want with
        | ⟨fr, hp, ids⟩, true => (b = true → run K ⟨upd fr g (.sc (.lit true)), hp, ids⟩) ∧ (b = false → skipK n dst K ⟨upd fr g (.sc (.lit false)), hp, ids⟩)
        | ⟨fr, hp, ids⟩, false => (b = false → run K ⟨upd fr g (.sc (.lit false)), hp, ids⟩) ∧ (b = true → skipK n dst K ⟨upd fr g (.sc (.lit true)), hp, ids⟩)
      | _ => False
    | none => False

/-- In the order of the text. -/
def vcOps (E : Env) (all : List Oper) (K : St → Prop) (l : List Oper) (st : St) : Prop :=
  List.rec (motive := fun _ => St → Prop) (fun st => K st)
    (fun o _ ih st => match o with | ⟨dst, op, _, _, _, guard⟩ => vcG2 E.n all guard dst (vcOp E dst op) ih st) l st

def vcOpsF (E : Env) (all : List Oper) (K : St → Prop) : List Oper → List Fp → St → Prop
  | [], _, st => K st
  | ⟨dst, op, _, _, _, guard⟩ :: r, fp :: fps, st => vcG E.n all guard dst (vcOpF E fp dst op) (vcOpsF E all K r fps) st
  | _ :: _, [], _ => False

def lookB (g : Nat) : List (Nat × Bool) → Option Bool
  | [] => none
  | (i, b) :: r => match Nat.beq g i with
    | true => some b
    | false => lookB g r

def dropB (d : Option Nat) : List (Nat × Bool) → List (Nat × Bool)
  | [] => []
  | (i, b) :: r => match d with
    | none => (i, b) :: dropB d r
    | some j => match Nat.beq i j with
      | true => dropB d r
      | false => (i, b) :: dropB d r

/-- The same, where what a guard is found to be is kept in mind. -/
def vcOpsK (E : Env) (all : List Oper) (K : St → Prop) (l : List Oper) (kn : List (Nat × Bool)) (fps : List Fp) (st : St) : Prop :=
  List.rec (motive := fun _ => List (Nat × Bool) → List Fp → St → Prop) (fun _ _ st => K st)
    (fun o _ ih kn fps st => match o, fps with
      | _, [] => False
      | ⟨dst, op, _, _, _, guard⟩, fp :: fps =>
        match guard with
        | none => vcOpF E fp dst op (ih (dropB dst kn) fps) st
        | some (j, want) => match gslot all j with
          | some g => match st.fr g with
            | .sc (.lit b) => match b, want with
              | true, true => vcOpF E fp dst op (ih (dropB dst kn) fps) st
              | false, false => vcOpF E fp dst op (ih (dropB dst kn) fps) st
              | _, _ => skipK E.n dst (ih (dropB dst kn) fps) st
            | .sc .und => skipK E.n dst (ih (dropB dst kn) fps) st
            | .sc (.bool b) => match lookB g kn with
              | some v => match v, want with
                | true, true => vcOpF E fp dst op (ih (dropB dst kn) fps) st
                | false, false => vcOpF E fp dst op (ih (dropB dst kn) fps) st
                | _, _ => skipK E.n dst (ih (dropB dst kn) fps) st
              | none => match want with
                | true => (b = true → vcOpF E fp dst op (ih (dropB dst ((g, true) :: kn)) fps) st) ∧ (b = false → skipK E.n dst (ih (dropB dst ((g, false) :: kn)) fps) st)
                | false => (b = false → vcOpF E fp dst op (ih (dropB dst ((g, false) :: kn)) fps) st) ∧ (b = true → skipK E.n dst (ih (dropB dst ((g, true) :: kn)) fps) st)
            | _ => False
          | none => False) l kn fps st
theorem vcOpsK_cons (E : Env) (all : List Oper) (K : St → Prop) (dst : Option Nat) (op : Op) (ty : Nat) (pos : String) (after : Array Edge) (guard : Option (Nat × Bool)) (r : List Oper) (kn : List (Nat × Bool)) (fp : Fp) (fps : List Fp) (st : St) :
    vcOpsK E all K (⟨dst, op, ty, pos, after, guard⟩ :: r) kn (fp :: fps) st = (match guard with
        | none => vcOpF E fp dst op (vcOpsK E all K r (dropB dst kn) fps) st
        | some (j, want) => match gslot all j with
          | some g => match st.fr g with
            | .sc (.lit b) => match b, want with
              | true, true => vcOpF E fp dst op (vcOpsK E all K r (dropB dst kn) fps) st
              | false, false => vcOpF E fp dst op (vcOpsK E all K r (dropB dst kn) fps) st
              | _, _ => skipK E.n dst (vcOpsK E all K r (dropB dst kn) fps) st
            | .sc .und => skipK E.n dst (vcOpsK E all K r (dropB dst kn) fps) st
            | .sc (.bool b) => match lookB g kn with
              | some v => match v, want with
                | true, true => vcOpF E fp dst op (vcOpsK E all K r (dropB dst kn) fps) st
                | false, false => vcOpF E fp dst op (vcOpsK E all K r (dropB dst kn) fps) st
                | _, _ => skipK E.n dst (vcOpsK E all K r (dropB dst kn) fps) st
              | none => match want with
                | true => (b = true → vcOpF E fp dst op (vcOpsK E all K r (dropB dst ((g, true) :: kn)) fps) st) ∧ (b = false → skipK E.n dst (vcOpsK E all K r (dropB dst ((g, false) :: kn)) fps) st)
                | false => (b = false → vcOpF E fp dst op (vcOpsK E all K r (dropB dst ((g, false) :: kn)) fps) st) ∧ (b = true → skipK E.n dst (vcOpsK E all K r (dropB dst ((g, true) :: kn)) fps) st)
            | _ => False
          | none => False) := rfl

/-! footprints by what the slots may refer to -/

def shOp (sh : Nat → List Nat) : Operand → List Nat
  | .tmp t => sh t
  | _ => []

def argFp (sh : Nat → List Nat) : List AK → List Operand → Fp
  | .cell _ _ :: ks, x :: xs => let f := argFp sh ks xs; ⟨f.r, shOp sh x ++ f.w⟩
  | .own _ _ :: ks, x :: xs => let f := argFp sh ks xs; ⟨f.r, shOp sh x ++ f.w⟩
  | .mrow _ _ :: ks, x :: xs => let f := argFp sh ks xs; ⟨f.r, shOp sh x ++ f.w⟩
  | .mlift _ _ :: ks, x :: xs => let f := argFp sh ks xs; ⟨f.r, shOp sh x ++ f.w⟩
  | _ :: ks, x :: xs => let f := argFp sh ks xs; ⟨shOp sh x ++ f.r, f.w⟩
  | _, _ => ⟨[], []⟩

def resIds (b : Nat) : List RK → List Nat
  | [] => []
  | .val _ :: rs => resIds (b + 1) rs
  | .skip :: rs => resIds (b + 1) rs
  | _ :: rs => b :: resIds (b + 1) rs

/-- the footprint, and what the result may refer to -/
def opFp (Γ : List Sig) (hp : Nat → Option Ob) (sh : Nat → List Nat) (o : Oper) : Fp × List Nat :=
  match o.op with
  | .alloc _ => (⟨[], o.dst.toList⟩, o.dst.toList)
  | .box _ _ => (⟨[], o.dst.toList⟩, o.dst.toList)
  | .buildSlice _ _ _ => (⟨[], o.dst.toList⟩, o.dst.toList)
  | .makeSlice _ _ _ => (⟨[], o.dst.toList⟩, o.dst.toList)
  | .load _ x => (⟨shOp sh x, []⟩, (shOp sh x).flatMap (boxIds hp))
  | .store _ x _ => (⟨[], shOp sh x⟩, [])
  | .convert _ _ x => (⟨shOp sh x, []⟩, [])
  | .indexAddr _ x _ => (⟨shOp sh x, []⟩, shOp sh x)
  | .slice _ x _ _ _ => (⟨shOp sh x, []⟩, shOp sh x)
  | .call c => match c.callee with
    | .value (.func f) => match findSig f Γ with
      | some s => match noPk f with
        | true => let fp := argFp sh s.ks c.args.toList; (⟨fp.r, resIds (resBase o.dst) s.rs ++ fp.w⟩, resIds (resBase o.dst) s.rs)
        | false => let l := c.args.toList.flatMap (shOp sh); (⟨[], resIds (resBase o.dst) s.rs ++ l ++ l.flatMap (boxIds hp)⟩, resIds (resBase o.dst) s.rs)
      | none => (⟨[], []⟩, [])
    | .value g => (⟨[], shOp sh g ++ (shOp sh g).flatMap (boxIds hp) ++ c.args.toList.flatMap (shOp sh)⟩, [])
    | .builtin .append => match c.args.toList with
      | [x, y] => (⟨shOp sh y, o.dst.toList ++ shOp sh x⟩, o.dst.toList)
      | _ => (⟨[], []⟩, [])
    | .builtin .clear => (⟨[], c.args.toList.flatMap (shOp sh)⟩, [])
    | .builtin _ => (⟨c.args.toList.flatMap (shOp sh), []⟩, [])
    | _ => (⟨[], []⟩, [])
  | op => (⟨[], []⟩, op.operands.toList.flatMap (shOp sh))

def fpsOf (Γ : List Sig) (hp : Nat → Option Ob) : (Nat → List Nat) → List Oper → List Fp
  | _, [] => []
  | sh, o :: r => match opFp Γ hp sh o with
    | (fp, ids) => fp :: fpsOf Γ hp (match o.dst with | some d => upd sh d ids | none => sh) r

def dedupB : List Nat → List Nat
  | [] => []
  | i :: r => match elemB i r with
    | true => dedupB r
    | false => i :: dedupB r

/-- For each operation, those that come ahead of it on every order. -/
def ancs : List (List Nat) → List Oper → List (List Nat)
  | acc, [] => acc
  | acc, o :: r => ancs (acc ++ [dedupB (o.after.toList.flatMap fun e => match Region.binds .any e with | true => e.on :: acc.getD e.on [] | false => [])]) r

def looksL (ops : List Oper) (o : Oper) : List Nat :=
  (o.op.operands.toList.filterMap fun x => match x with | .tmp t => some t | _ => none) ++
  (match o.guard with | some (g, _) => (gslot ops g).toList | none => [])

def indepB (ops : List Oper) (x : Oper) (fx : Fp) (y : Oper) (fy : Fp) : Bool :=
  disjB x.dst.toList (looksL ops y ++ y.dst.toList) && disjB y.dst.toList (looksL ops x) &&
  disjB fx.w (fy.r ++ fy.w) && disjB fx.r fy.w

def confRow (ops : List Oper) (x : Oper) (fx : Fp) (i : Nat) : List Oper → List Fp → List (List Nat) → Bool
  | [], _, _ => true
  | y :: ys, fy :: fys, a :: as => (elemB i a || indepB ops x fx y fy) && confRow ops x fx i ys fys as
  | _, _, _ => false

def confFrom (ops : List Oper) (i : Nat) : List Oper → List Fp → List (List Nat) → Bool
  | [], _, _ => true
  | x :: xs, fx :: fxs, _ :: as => confRow ops x fx i xs fxs as && confFrom ops (i + 1) xs fxs as
  | _, _, _ => false

/-- each operation waits for earlier ones alone -/
def lexOk : Nat → List Oper → Bool
  | _, [] => true
  | i, o :: r => (o.after.toList.all fun e => match Region.binds .any e with | true => Nat.ble (e.on + 1) i | false => true) && lexOk (i + 1) r

def noSel : List Oper → Bool
  | [] => true
  | o :: r => match o.op with
    | .select _ _ => false
    | _ => noSel r

def confOk (ops : List Oper) (fps : List Fp) : Bool :=
  noSel ops && lexOk 0 ops && confFrom ops 0 ops fps (ancs [] ops)

def exitK (id : Nat) (K : Exit → St → Prop) : Exit → St → Prop
  | .exit i, st => match Nat.beq i id with
    | true => K .normal st
    | false => K (.exit i) st
  | e, st => K e st

def seqK (N : St → Prop) (K : Exit → St → Prop) : Exit → St → Prop
  | .normal, st => N st
  | e, st => K e st

/-- The slots that a piece of code writes. -/
def dsts : Code → List Nat
  | .region _ ops _ => ops.toList.filterMap (·.dst)
  | .seq a b => dsts a ++ dsts b
  | .cond _ a b => dsts a ++ dsts b
  | .block _ c => dsts c
  | .loop c => dsts c
  | _ => []

/-- Where a loop stands at each head: the slots that its relation names, the objects that stay, the objects that its relation names. -/
structure Head where
  fr : List (Nat × SV)
  keep : List Nat
  hp : List (Nat × Ob)

def lookS : Nat → List (Nat × SV) → Option SV
  | _, [] => none
  | j, (i, v) :: r => match Nat.beq j i with
    | true => some v
    | false => lookS j r

def lookO : Nat → List (Nat × Ob) → Option Ob
  | _, [] => none
  | j, (i, v) :: r => match Nat.beq j i with
    | true => some v
    | false => lookO j r

def Head.st (h : Head) (ds : List Nat) (st : St) : St :=
  { fr := fun j => match elemB j ds with
      | true => match lookS j h.fr with
        | some v => v
        | none => .sc .any
      | false => st.fr j
    hp := fun i => match lookO i h.hp with
      | some o => some o
      | none => match elemB i h.keep with
        | true => st.hp i
        | false => none
    ids := fun i => match lookO i h.hp with
      | some _ => true
      | none => st.ids i }

/-- names of the relation's own rows, and what they stand for now: 'none': nil -/
abbrev Ren := List (Nat × Option Nat)

def lookR : Nat → Ren → Option (Option Nat)
  | _, [] => none
  | j, (i, v) :: r => match Nat.beq j i with
    | true => some v
    | false => lookR j r

def addR (m : Ren) (r : Nat) (x : Option Nat) : Ren :=
  match lookR r m with
  | some _ => m
  | none => (r, x) :: m

def renSc (m : Ren) : Sc → Sc → Ren
  | .own i, .own r => addR m r (some i)
  | .nil, .own r => addR m r none
  | _, _ => m

/-- without those that were known before and bear their own names -/
def dropR (ids : Nat → Bool) : Ren → Ren
  | [] => []
  | (i, none) :: r => (i, none) :: dropR ids r
  | (i, some x) :: r => match Nat.beq i x && ids i with
    | true => dropR ids r
    | false => (i, some x) :: dropR ids r

def renL (m : Ren) : List Sc → List Sc → Ren
  | a :: r, b :: s => renL (renSc m a b) r s
  | _, _ => m

def renSV (m : Ren) : SV → SV → Ren
  | .sc a, .sc b => renSc m a b
  | .ag a, .ag b => renL m a b
  | _, _ => m

def renF (st : St) (m : Ren) : List (Nat × SV) → Ren
  | [] => m
  | (j, v) :: r => renF st (renSV m (st.fr j) v) r

def renH (st : St) (m : Ren) : List (Nat × Ob) → Ren
  | [] => m
  | (i, .box _ cs) :: r => renH st (match st.hp i with | some (.box _ cs') => renL m cs' cs | _ => m) r
  | _ :: r => renH st m r

/-- what stands now (left) fits what the relation says (right); 'ids': the names that the relation knows -/
def leSc (m : Ren) (ids : Nat → Bool) : Sc → Sc → Prop
  | _, .any => True
  | .num k n, .num k' n' => match sameK k k' with
    | true => Lf (n = n')
    | false => False
  | .lit b, .lit b' => Lf (b = b')
  | .lit b, .bool b' => Lf (b = b')
  | .bool b, .bool b' => Lf (b = b')
  | .str s, .str s' => Lf (s = s')
  | .ref i o, .ref i' o' => match Nat.beq i i' && Nat.beq o o' && ids i, lookR i m with
    | true, none => True
    | _, _ => False
  | .eref i j o, .eref i' j' o' => match Nat.beq i i' && Nat.beq o o' && ids i, lookR i m with
    | true, none => Lf (j = j')
    | _, _ => False
  | .vw i o l, .vw i' o' l' => match Nat.beq i i' && ids i, lookR i m with
    | true, none => Lf (o = o') ∧ Lf (l = l')
    | _, _ => False
  | .own i, .own r => match lookR r m, ids r with
    | none, true => match Nat.beq i r with
      | true => True
      | false => False
    | some (some i'), true => match Nat.beq i i' with
      | true => True
      | false => False
    | _, _ => False
  | .nil, .own r => match lookR r m, ids r with
    | some none, true => True
    | _, _ => False
  | .nil, .nil => True
  | .fn f [], .fn f' [] => match Nat.beq f f' with
    | true => True
    | false => False
  | .und, .und => True
  | .clo i, .clo i' => match Nat.beq i i' && ids i, lookR i m with
    | true, none => True
    | _, _ => False
  | .raw r, .raw r' => Lf (r = r')
  | _, _ => False

def leL (m : Ren) (ids : Nat → Bool) : List Sc → List Sc → Prop
  | [], [] => True
  | a :: r, b :: s => leSc m ids a b ∧ leL m ids r s
  | _, _ => False

def leSV (m : Ren) (ids : Nat → Bool) : SV → SV → Prop
  | .sc a, .sc b => leSc m ids a b
  | .ag a, .ag b => leL m ids a b
  | _, .sc .any => True
  | _, _ => False

def leOb (m : Ren) (ids : Nat → Bool) : Ob → Ob → Prop
  | .box t cs, .box t' cs' => match Nat.beq t t' with
    | true => leL m ids cs cs'
    | false => False
  | .rbox t cs, .rbox t' cs' => match Nat.beq t t' with
    | true => leL m ids cs cs'
    | false => False
  | .row e k xs, .row e' k' xs' => match Nat.beq e e', VK.castL k k' xs with
    | true, some ys => Lf (ys = xs')
    | _, _ => False
  | .view k xs, .view k' xs' => match VK.castL k k' xs with
    | some ys => Lf (ys = xs')
    | none => False
  | .part k xs, .part k' xs' => match VK.castL k k' xs with
    | some ys => Lf (ys = xs')
    | none => False
  | _, _ => False

def nilOb : Ob → Prop
  | .row _ _ xs => Lf (xs.length = 0)
  | _ => False

def leF (m : Ren) (ids : Nat → Bool) (st : St) : List (Nat × SV) → Prop
  | [] => True
  | (j, v) :: r => leSV m ids (st.fr j) v ∧ leF m ids st r

def leH (m : Ren) (ids : Nat → Bool) (st : St) : List (Nat × Ob) → Prop
  | [] => True
  | (i, o) :: r => (match lookR i m with
      | some (some i') => match st.hp i' with | some o' => leOb m ids o' o | none => False
      | some none => nilOb o
      | none => match st.hp i with | some o' => leOb m ids o' o | none => False) ∧ leH m ids st r

def leK (m : Ren) (ids : Nat → Bool) (st st0 : St) : List Nat → Prop
  | [] => True
  | i :: r => (match st.hp i, st0.hp i with | some o, some o' => leOb m ids o o' | _, _ => False) ∧ leK m ids st st0 r

def targets : Ren → List Nat
  | [] => []
  | (_, some i) :: r => i :: targets r
  | (_, none) :: r => targets r

def keysR : Ren → List Nat
  | [] => []
  | (i, _) :: r => i :: keysR r

def keysO : List (Nat × Ob) → List Nat
  | [] => []
  | (i, _) :: r => i :: keysO r

/-- those that bear their own names -/
def same (m : Ren) : List Nat → List Nat
  | [] => []
  | i :: r => match lookR i m with
    | none => i :: same m r
    | some _ => same m r

def allB (f : Nat → Bool) : List Nat → Bool
  | [] => true
  | i :: r => match f i with
    | true => allB f r
    | false => false

def noneB (f : Nat → Bool) : List Nat → Bool
  | [] => true
  | i :: r => match f i with
    | true => false
    | false => noneB f r

def Head.okB (h : Head) (m : Ren) (st0 : St) : Bool :=
  distB (targets m ++ (same m (keysO h.hp) ++ h.keep)) && distB (keysO h.hp ++ h.keep) && noneB st0.ids (keysR m) && allB st0.ids (same m (keysO h.hp) ++ h.keep) && subB (keysR m) (keysO h.hp)

/-- The state 'st' is where the head 'h' of a loop that was entered at 'st0' says. -/
def Head.fits (h : Head) (ds : List Nat) (st0 st : St) : Prop :=
  match dropR st0.ids (renH st (renF st [] h.fr) h.hp) with
  | m => match h.okB m st0 with
    | true => leF m (h.st ds st0).ids st h.fr ∧ leH m (h.st ds st0).ids st h.hp ∧ leK m (h.st ds st0).ids st st0 h.keep
    | false => False

/-- A test that is computed by itself. -/
structure Cf (b : Bool) : Prop where
  out : b = true

def vc (E : Env) (c : Code) (K : Exit → St → Prop) (st : St) : Prop :=
  Code.rec (motive := fun _ => (Exit → St → Prop) → St → Prop)
    (fun K st => K .normal st)
    (fun _ ops draw K st => match draw with
      | false => vcOps E ops.toList (K .normal) ops.toList st
      | true => Cf (confOk ops.toList (fpsOf E.Γ st.hp (fun j => idsSV (st.fr j)) ops.toList)) ∧ vcOpsK E ops.toList (K .normal) ops.toList [] (fpsOf E.Γ st.hp (fun j => idsSV (st.fr j)) ops.toList) st)
    (fun _ _ va vb K st => va (seqK (vb K) K) st)
    (fun c _ _ va vb K st => match ev st.fr c with
      | .sc (.lit true) => va K st
      | .sc (.lit false) => vb K st
      | .sc (.bool x) => (x = true → va K st) ∧ (x = false → vb K st)
      | _ => False)
    (fun id _ v K st => v (exitK id K) st)
    (fun c v K st => ∃ (α : Type) (H : α → Head) (Φ : α → Prop) (μ : α → Nat),
      (∃ x, Φ x ∧ (H x).fits (dsts c) st st) ∧
      ∀ x, Φ x → v (seqK (fun st' => ∃ x', Φ x' ∧ μ x' < μ x ∧ (H x').fits (dsts c) st st') K) ((H x).st (dsts c) st))
    (fun _ _ _ _ _ _ _ _ => False)
    (fun i K st => K (.exit i) st)
    (fun _ _ _ _ => False)
    (fun _ _ _ => False)
    (fun _ _ _ => False)
    (fun K st => K .ret st)
    (fun _ _ _ => False) c K st
theorem vc_plain (E : Env) (i : Nat) (ops : Array Oper) (K : Exit → St → Prop) (st : St) : vc E (.region i ops false) K st = vcOps E ops.toList (K .normal) ops.toList st := rfl
theorem vc_draw (E : Env) (i : Nat) (ops : Array Oper) (K : Exit → St → Prop) (st : St) : vc E (.region i ops true) K st = (Cf (confOk ops.toList (fpsOf E.Γ st.hp (fun j => idsSV (st.fr j)) ops.toList)) ∧ vcOpsK E ops.toList (K .normal) ops.toList [] (fpsOf E.Γ st.hp (fun j => idsSV (st.fr j)) ops.toList) st) := rfl
theorem vc_cond (E : Env) (c : Operand) (a b : Code) (K : Exit → St → Prop) (st : St) : vc E (.cond c a b) K st = (match ev st.fr c with
      | .sc (.lit true) => vc E a K st
      | .sc (.lit false) => vc E b K st
      | .sc (.bool x) => (x = true → vc E a K st) ∧ (x = false → vc E b K st)
      | _ => False) := rfl
theorem vc_block (E : Env) (i : Nat) (c : Code) (K : Exit → St → Prop) (st : St) : vc E (.block i c) K st = vc E c (exitK i K) st := rfl
theorem vc_loop (E : Env) (c : Code) (K : Exit → St → Prop) (st : St) : vc E (.loop c) K st = (∃ (α : Type) (H : α → Head) (Φ : α → Prop) (μ : α → Nat),
      (∃ x, Φ x ∧ (H x).fits (dsts c) st st) ∧
      ∀ x, Φ x → vc E c (seqK (fun st' => ∃ x', Φ x' ∧ μ x' < μ x ∧ (H x').fits (dsts c) st st') K) ((H x).st (dsts c) st)) := rfl

/-! ### a function -/

def parOf (i : Nat) : (a : AK) → a.ty → SV × List Up
  | .val k, x => (sval k.isAg (k.enc x), [])
  | .list k, (xs : List k.ty) => (.sc (.vw (100000 + i) 0 xs.length), [⟨100000 + i, true, some (.view k xs)⟩])
  | .lift k, (xs : List k.ty) => (.ag [.vw (100000 + i) 0 xs.length], [⟨100000 + i, true, some (.view k xs)⟩])
  | .cell t k, x => (.sc (.ref (100000 + i) 0), [⟨100000 + i, true, some (.box t (k.enc x))⟩])
  | .lcell t k, (xs : List k.ty) => (.sc (.ref (100000 + i) 0), [⟨150000 + i, true, some (.view k xs)⟩, ⟨100000 + i, true, some (.rbox t [.vw (150000 + i) 0 xs.length])⟩])
  | .own e k, xs => (.sc (.own (100000 + i)), [⟨100000 + i, true, some (.row e k xs)⟩])
  | .mrow e k, xs => (.sc (.own (100000 + i)), [⟨100000 + i, true, some (.row e k xs)⟩])
  | .mlift e k, xs => (.ag [.own (100000 + i)], [⟨100000 + i, true, some (.row e k xs)⟩])
  | .clo _, _ => (.sc (.clo (100000 + i)), [⟨100000 + i, true, none⟩])
  | .cmp _, _ => (.sc (.clo (100000 + i)), [⟨100000 + i, true, none⟩])

def parsOf (i : Nat) : (ks : List AK) → AKs ks → List SV × List Up
  | [], _ => ([], [])
  | a :: ks, (x, y) => match parOf i a x, parsOf (i + 1) ks y with
    | (v, us), (vs, us') => (v :: vs, us ++ us')

/-- the functions that are handed in -/
def closOf (i : Nat) : (ks : List AK) → AKs ks → List (Nat × CloE)
  | [], _ => []
  | .clo k :: ks, ((D, p), y) => (100000 + i, .clo k D p) :: closOf (i + 1) ks y
  | .cmp k :: ks, ((D, p), y) => (100000 + i, .cmp k D p) :: closOf (i + 1) ks y
  | .val .raw :: ks, (x, y) => (100000 + i, .raw x) :: closOf (i + 1) ks y
  | .cell _ .cur :: ks, (x, y) => (100000 + i, .raw x.r) :: closOf (i + 1) ks y
  | .val _ :: ks, (_, y) => closOf (i + 1) ks y
  | .list _ :: ks, (_, y) => closOf (i + 1) ks y
  | .lift _ :: ks, (_, y) => closOf (i + 1) ks y
  | .cell _ _ :: ks, (_, y) => closOf (i + 1) ks y
  | .lcell _ _ :: ks, (_, y) => closOf (i + 1) ks y
  | .own _ _ :: ks, (_, y) => closOf (i + 1) ks y
  | .mrow _ _ :: ks, (_, y) => closOf (i + 1) ks y
  | .mlift _ _ :: ks, (_, y) => closOf (i + 1) ks y

def lookN (d : SV) : List SV → Nat → SV
  | [], _ => d
  | v :: r, j => match j with
    | 0 => v
    | j + 1 => lookN d r j

/-- The slots from number i on. -/
def putS (fr : Nat → SV) (i : Nat) (vs : List SV) (K : (Nat → SV) → Prop) : Prop :=
  List.rec (motive := fun _ => (Nat → SV) → Nat → Prop) (fun fr _ => K fr) (fun v _ ih fr i => ih (upd fr i v) (i + 1)) vs fr i

def initK (f : Nat) (ks : List AK) (x : AKs ks) (K : St → Prop) : Prop :=
  match parsOf 0 ks x with
  | (vs, us) => putS (fun _ => .sc .und) 0 (packS f vs) fun fr => forceU us fun us => putU fr (fun _ => none) (fun _ => false) us K

/-- the results, read off the state -/
def rvar (E : Env) (st : St) : ResultVar → Option SV
  | .tmp t => some (st.fr t)
  | .cell a t => match E.T t, boxOf st.hp (st.fr a) with
    | some ty, some (_, cs) => match Nat.beq cs.length ty.size with | true => some (sval ty.agg cs) | false => none
    | _, _ => none

def rvars (E : Env) (st : St) : List ResultVar → Option (List SV)
  | [] => some []
  | r :: rs => match rvar E st r, rvars E st rs with
    | some v, some vs => some (v :: vs)
    | _, _ => none

/-- a row, or a part of one, that is the function's own -/
def partB (hp : Nat → Option Ob) (id : Nat) : Bool := match hp id with
  | some (.row _ _ _) => true
  | some (.part _ _) => true
  | _ => false

/-- A result of this kind, and the row that is handed out. -/
def resIs (st : St) : (r : RK) → SV → r.ty → (List Nat → Prop) → Prop
  | .skip, _, _, K => K []
  | .val k, v, x, K => match decV k v with
    | some y => y = x ∧ K []
    | none => False
  | .list e k, .sc .nil, (xs : List k.ty), K => xs = [] ∧ K []
  | .list e k, .sc (.own id), (xs : List k.ty), K => match st.hp id with
    | some (.row e' k' ys) => match Nat.beq e' e, VK.castL k' k ys with
      | true, some ys => ys = xs ∧ K [id]
      | _, _ => False
    | _ => False
  | .list e k, .sc (.vw id off len), (xs : List k.ty), K => match st.hp id, Nat.beq off 0 with
    | some (.row e' k' ys), true => match Nat.beq e' e, VK.castL k' k ys with
      | true, some ys => 0 < ys.length ∧ ys.take len = xs ∧ K [id]
      | _, _ => False
    | _, _ => False
  | .part k, .sc .nil, (xs : List k.ty), K => xs = [] ∧ K []
  | .part k, .sc (.own id), (xs : List k.ty), K => match partB st.hp id, listOf st.hp k (.sc (.own id)) with
    | true, some ys => ys = xs ∧ K [id]
    | _, _ => False
  | .part k, .sc (.vw id off len), (xs : List k.ty), K => match partB st.hp id, listOf st.hp k (.sc (.vw id off len)) with
    | true, some ys => ys = xs ∧ K [id]
    | _, _ => False
  | .lift e k, .ag [.nil], (xs : List k.ty), K => xs = [] ∧ K []
  | .lift e k, .ag [.own id], (xs : List k.ty), K => match st.hp id with
    | some (.row e' k' ys) => match Nat.beq e' e, VK.castL k' k ys with
      | true, some ys => ys = xs ∧ K [id]
      | _, _ => False
    | _ => False
  | _, _, _, _ => False

def ressAre (st : St) : (rs : List RK) → List SV → RKs rs → (List Nat → Prop) → Prop
  | [], [], _, K => K []
  | r :: rs, v :: vs, (x, y), K => resIs st r v x fun l => ressAre st rs vs y fun l' => K (l ++ l')
  | _, _, _, _ => False

/-- What the objects that were handed in hold at the end. -/
def outsAre (i : Nat) (st : St) : (ks : List AK) → AKo ks → Prop
  | [], _ => True
  | .cell t k :: ks, (o, o') => (match st.hp (100000 + i) with
      | some (.box t' cs) => match Nat.beq t' t, k.dec cs with
        | true, some y => Lf (y = o)
        | _, _ => False
      | _ => False) ∧ outsAre (i + 1) st ks o'
  | .val _ :: ks, o => outsAre (i + 1) st ks o
  | .list _ :: ks, o => outsAre (i + 1) st ks o
  | .lift _ :: ks, o => outsAre (i + 1) st ks o
  | .lcell _ _ :: ks, o => outsAre (i + 1) st ks o
  | .own _ _ :: ks, o => outsAre (i + 1) st ks o
  | .mrow e k :: ks, (o, o') => (match st.hp (100000 + i) with
      | some (.row e' k' xs) => match Nat.beq e' e, VK.castL k' k xs with
        | true, some y => Lf (y = o)
        | _, _ => False
      | _ => False) ∧ outsAre (i + 1) st ks o'
  | .mlift e k :: ks, (o, o') => (match st.hp (100000 + i) with
      | some (.row e' k' xs) => match Nat.beq e' e, VK.castL k' k xs with
        | true, some y => Lf (y = o)
        | _, _ => False
      | _ => False) ∧ outsAre (i + 1) st ks o'
  | .clo _ :: ks, o => outsAre (i + 1) st ks o
  | .cmp _ :: ks, o => outsAre (i + 1) st ks o

/-- the rows that stay the caller's -/
def mIds (i : Nat) : List AK → List Nat
  | [] => []
  | .mrow _ _ :: ks => (100000 + i) :: mIds (i + 1) ks
  | .mlift _ _ :: ks => (100000 + i) :: mIds (i + 1) ks
  | _ :: ks => mIds (i + 1) ks

def endK (E : Env) (rv : List ResultVar) (ks : List AK) (rs : List RK) (res : RKs rs) (out : AKo ks) (st : St) : Prop :=
  match rvars E st rv with
  | some vs => ressAre st rs vs res (fun l => match distB (l ++ mIds 0 ks) with | true => outsAre 0 st ks out | false => False)
  | none => False

def finK (E : Env) (rv : List ResultVar) (ks : List AK) (rs : List RK) (res : RKs rs) (out : AKo ks) : Exit → St → Prop
  | .normal, st => endK E rv ks rs res out st
  | .ret, st => endK E rv ks rs res out st
  | _, _ => False

def vcFnW (wd : Option Nat) (T : Nat → Option Ty) (Γ : List Sig) (fn : Func) (s : Sig) (x : AKs s.ks) : Prop :=
  match fn.body, s.eff x with
  | some c, ⟨_, res, out⟩ => initK s.f s.ks x (vc ⟨T, Γ, fn.ntmps, closOf 0 s.ks x, wd⟩ c (finK ⟨T, Γ, fn.ntmps, closOf 0 s.ks x, wd⟩ fn.results.toList s.ks s.rs res out))
  | none, _ => False

def vcFn (T : Nat → Option Ty) (Γ : List Sig) (fn : Func) (s : Sig) (x : AKs s.ks) : Prop := vcFnW none T Γ fn s x

end Go.Vx
