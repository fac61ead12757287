/- A way to show what code computes: part 1: no condition. -/
import Derived.Tactics
set_option linter.unusedVariables false
namespace Go.Ev

inductive Ty where
  | int (k : IntKind) | bool | str
  | unit | one (t : Ty) | pair (a b : Ty)
  | arr (n : Nat) (t : Ty)
  | list (t : Ty)
  | vec (s : Bool) (t : Ty)
  | map (k v : Ty)
  | box (t : Ty)
  | ref (id : Nat)
  | nil
  | hole (n : Nat)
  deriving DecidableEq

@[reducible] def Ty.den : Ty → Type
  | .int _ => Int
  | .bool => Bool
  | .str => List Int
  | .unit => Unit
  | .one t => t.den
  | .pair a b => a.den × b.den
  | .arr _ t => List t.den
  | .list t => List t.den
  | .vec _ t => List t.den
  | .map k v => List (k.den × v.den)
  | .box t => t.den
  | .ref _ => Unit
  | .nil => Unit
  | .hole _ => Unit

def Ty.width : Ty → Nat
  | .unit => 0
  | .one t => t.width
  | .pair a b => a.width + b.width
  | .arr n t => n * t.width
  | .hole n => n
  | _ => 1

def Ty.isAgg : Ty → Bool
  | .unit | .one _ | .pair _ _ | .arr _ _ => true
  | _ => false

def Ty.pure : Ty → Bool
  | .int _ | .bool | .str | .unit => true
  | .one t | .arr _ t | .list t => t.pure
  | .pair a b => a.pure && b.pure
  | _ => false

/-- What a read out of range would give: never met behind its guard. -/
def Ty.dflt : (t : Ty) → t.den
  | .int _ => (0 : Int)
  | .bool => false
  | .str => ([] : List Int)
  | .unit => ()
  | .one t => t.dflt
  | .pair a b => (a.dflt, b.dflt)
  | .arr _ t => ([] : List t.den)
  | .list t => ([] : List t.den)
  | .vec _ t => ([] : List t.den)
  | .map k v => ([] : List (k.den × v.den))
  | .box t => t.dflt
  | .ref _ => ()
  | .nil => ()
  | .hole _ => ()

/-- The zero value of a type that may be made anew. -/
def Ty.zero : (t : Ty) → t.den
  | .one t => t.zero
  | .pair a b => (a.zero, b.zero)
  | .arr n t => List.replicate n t.zero
  | .box t => t.zero
  | .int _ => (0 : Int)
  | .bool => false
  | .str => ([] : List Int)
  | .unit => ()
  | .list t => ([] : List t.den)
  | .vec _ t => ([] : List t.den)
  | .map k v => ([] : List (k.den × v.den))
  | .ref _ => ()
  | .nil => ()
  | .hole _ => ()

/-! Words for what is data: sealed, so that the kernel lets them stand; each is opened by its equation. -/
noncomputable def shut {α : Type} (a : α) : α := Classical.choose (⟨a, rfl⟩ : ∃ b, b = a)
theorem shut_eq {α : Type} (a : α) : shut a = a := Classical.choose_spec (⟨a, rfl⟩ : ∃ b, b = a)

noncomputable section
def rd {α : Type} [Inhabited α] (l : List α) (i : Int) : α := shut (l.getD i.toNat default)
def wr {α : Type} (l : List α) (i : Int) (x : α) : List α := shut (l.set i.toNat x)
def ln {α : Type} (l : List α) : Int := shut (l.length : Int)
def sub {α : Type} (l : List α) (i j : Int) : List α := shut ((l.take j.toNat).drop i.toNat)
def app {α : Type} (l m : List α) : List α := shut (l ++ m)
def rep {α : Type} (n : Int) (x : α) : List α := shut (List.replicate n.toNat x)
def grd {R : Type} (p : Prop) [Decidable p] (k : Option R) : Option R := shut (if p then k else none)
def br {R : Type} (b : Bool) (x y : R) : R := shut (if b = true then x else y)
def both {R : Type} (x y : Option R) : Option R := shut (open Classical in if x = y then x else none)
def bnd {α β : Type} (x : Option α) (f : α → Option β) : Option β := shut (x.bind f)
def iadd (a b : Int) : Int := shut (a + b)
def isub (a b : Int) : Int := shut (a - b)
def imul (a b : Int) : Int := shut (a * b)
def iquo (a b : Int) : Int := shut (a.tdiv b)
def irem (a b : Int) : Int := shut (a.tmod b)
def ishl (a : Int) (n : Nat) : Int := shut (a * 2 ^ n)
def ishr (a : Int) (n : Nat) : Int := shut (a.fdiv (2 ^ n))
def iLe (a b : Int) : Prop := a ≤ b
def iLt (a b : Int) : Prop := a < b
def iNz (a : Int) : Prop := a ≠ 0
instance (a b : Int) : Decidable (iLe a b) := Classical.propDecidable _
instance (a b : Int) : Decidable (iLt a b) := Classical.propDecidable _
instance (a : Int) : Decidable (iNz a) := Classical.propDecidable _
def bEq (a b : Int) : Bool := shut (decide (a = b))
def bLt (a b : Int) : Bool := shut (decide (a < b))
def bLe (a b : Int) : Bool := shut (decide (a ≤ b))
def sEq (a b : List Int) : Bool := shut (decide (a = b))
def bNot (a : Bool) : Bool := shut (!a)
def bAnd (a b : Bool) : Bool := shut (a && b)
def bOr (a b : Bool) : Bool := shut (a || b)
def bIff (a b : Bool) : Bool := shut (a == b)
def imin (a b : Int) : Int := shut (if b < a then b else a)
def imax (a b : Int) : Int := shut (if a < b then b else a)
end

section
variable {α β R : Type}
theorem rd_eq [Inhabited α] (l : List α) (i : Int) : rd l i = l.getD i.toNat default := shut_eq _
theorem wr_eq (l : List α) (i : Int) (x : α) : wr l i x = l.set i.toNat x := shut_eq _
theorem ln_eq (l : List α) : ln l = (l.length : Int) := shut_eq _
theorem sub_eq (l : List α) (i j : Int) : sub l i j = (l.take j.toNat).drop i.toNat := shut_eq _
theorem app_eq (l m : List α) : app l m = l ++ m := shut_eq _
theorem rep_eq (n : Int) (x : α) : rep n x = List.replicate n.toNat x := shut_eq _
theorem grd_eq (p : Prop) [Decidable p] (k : Option R) : grd p k = if p then k else none := shut_eq _
theorem br_eq (b : Bool) (x y : R) : br b x y = if b = true then x else y := shut_eq _
theorem both_some {x y : Option R} {r : R} (h : both x y = some r) : x = some r ∧ y = some r := by
  unfold both at h
  rw [shut_eq] at h
  split at h
  · rename_i e; exact ⟨h, by rw [← e]; exact h⟩
  · simp at h
theorem both_self (x : Option R) : both x x = x := by
  unfold both
  rw [shut_eq, if_pos rfl]
theorem bnd_eq (x : Option α) (f : α → Option β) : bnd x f = x.bind f := shut_eq _
theorem iadd_eq (a b : Int) : iadd a b = a + b := shut_eq _
theorem isub_eq (a b : Int) : isub a b = a - b := shut_eq _
theorem imul_eq (a b : Int) : imul a b = a * b := shut_eq _
theorem iquo_eq (a b : Int) : iquo a b = a.tdiv b := shut_eq _
theorem irem_eq (a b : Int) : irem a b = a.tmod b := shut_eq _
theorem ishl_eq (a : Int) (n : Nat) : ishl a n = a * 2 ^ n := shut_eq _
theorem ishr_eq (a : Int) (n : Nat) : ishr a n = a.fdiv (2 ^ n) := shut_eq _
theorem iLe_eq (a b : Int) : iLe a b = (a ≤ b) := rfl
theorem iLt_eq (a b : Int) : iLt a b = (a < b) := rfl
theorem iNz_eq (a : Int) : iNz a = (a ≠ 0) := rfl
theorem bEq_eq (a b : Int) : bEq a b = decide (a = b) := shut_eq _
theorem bLt_eq (a b : Int) : bLt a b = decide (a < b) := shut_eq _
theorem bLe_eq (a b : Int) : bLe a b = decide (a ≤ b) := shut_eq _
theorem sEq_eq (a b : List Int) : sEq a b = decide (a = b) := shut_eq _
theorem bNot_eq (a : Bool) : bNot a = !a := shut_eq _
theorem bAnd_eq (a b : Bool) : bAnd a b = (a && b) := shut_eq _
theorem bOr_eq (a b : Bool) : bOr a b = (a || b) := shut_eq _
theorem bIff_eq (a b : Bool) : bIff a b = (a == b) := shut_eq _
theorem imin_eq (a b : Int) : imin a b = if b < a then b else a := shut_eq _
theorem imax_eq (a b : Int) : imax a b = if a < b then b else a := shut_eq _
theorem grd_some {p : Prop} [Decidable p] {k : Option R} {r : R} (h : grd p k = some r) : p ∧ k = some r := by
  rw [grd_eq] at h; split at h
  · exact ⟨by assumption, h⟩
  · simp at h
end

instance Ty.inh (t : Ty) : Inhabited t.den := ⟨t.dflt⟩

structure TV where
  t : Ty
  x : t.den

def Ty.cast {t : Ty} (x : t.den) (u : Ty) : Option u.den := if h : t = u then some (h ▸ x) else none

inductive Stp where
  | l | r | o | d
  | at (i : Int)
abbrev Path := List Stp

/-- What lies at a path (its bounds: 'Ty.inb'). -/
noncomputable def Ty.get : (t : Ty) → t.den → Path → Option TV
  | t, x, [] => some ⟨t, x⟩
  | .one t, x, .o :: p => t.get x p
  | .pair a _, x, .l :: p => a.get x.1 p
  | .pair _ b, x, .r :: p => b.get x.2 p
  | .arr _ t, x, .at i :: p => t.get (rd (α := t.den) x i) p
  | .vec _ t, x, .at i :: p => t.get (rd (α := t.den) x i) p
  | .box t, x, .d :: p => t.get x p
  | _, _, _ => none

/-- The bounds of a path, as a test ahead of what follows. -/
noncomputable def Ty.inb {R : Type} : (t : Ty) → t.den → Path → Option R → Option R
  | .one t, x, .o :: p, k => t.inb x p k
  | .pair a _, x, .l :: p, k => a.inb x.1 p k
  | .pair _ b, x, .r :: p, k => b.inb x.2 p k
  | .arr n t, x, .at i :: p, k => grd (iLe 0 i ∧ iLt i (n : Int)) (t.inb (rd (α := t.den) x i) p k)
  | .vec _ t, x, .at i :: p, k => grd (iLe 0 i ∧ iLt i (ln (α := t.den) x)) (t.inb (rd (α := t.den) x i) p k)
  | .box t, x, .d :: p, k => t.inb x p k
  | _, _, [], k => k
  | _, _, _, _ => none

noncomputable def Ty.set : (t : Ty) → t.den → Path → TV → Option TV
  | _, _, [], v => some v
  | .one t, x, .o :: p, v => (t.set x p v).bind fun y => some ⟨.one y.t, y.x⟩
  | .pair a b, x, .l :: p, v => (a.set x.1 p v).bind fun y => some ⟨.pair y.t b, (y.x, x.2)⟩
  | .pair a b, x, .r :: p, v => (b.set x.2 p v).bind fun y => some ⟨.pair a y.t, (x.1, y.x)⟩
  | .arr n t, x, .at i :: p, v => (t.set (rd (α := t.den) x i) p v).bind fun y => (Ty.cast y.x t).bind fun z => some ⟨.arr n t, wr (α := t.den) x i z⟩
  | .vec s t, x, .at i :: p, v => if s then none else (t.set (rd (α := t.den) x i) p v).bind fun y => (Ty.cast y.x t).bind fun z => some ⟨.vec s t, wr (α := t.den) x i z⟩
  | .box t, x, .d :: p, v => (t.set x p v).bind fun y => some ⟨.box y.t, y.x⟩
  | _, _, _, _ => none

/-- The payload's own type: what is owned reads as a list. -/
def Ty.erase : Ty → Ty
  | .one t => .one t.erase
  | .pair a b => .pair a.erase b.erase
  | .arr n t => .arr n t.erase
  | .list t => .list t.erase
  | .vec _ t => .list t.erase
  | .map k v => .map k.erase v.erase
  | .box t => .box t.erase
  | .ref _ => .ref 0
  | t => t

theorem Ty.den_erase : (t : Ty) → t.erase.den = t.den
  | .one t => by simp only [Ty.erase, Ty.den]; exact den_erase t
  | .pair a b => by simp only [Ty.erase, Ty.den]; rw [den_erase a, den_erase b]
  | .arr _ t => by simp only [Ty.erase, Ty.den]; rw [den_erase t]
  | .list t => by simp only [Ty.erase, Ty.den]; rw [den_erase t]
  | .vec _ t => by simp only [Ty.erase, Ty.den]; rw [den_erase t]
  | .map k v => by simp only [Ty.erase, Ty.den]; rw [den_erase k, den_erase v]
  | .box t => by simp only [Ty.erase, Ty.den]; exact den_erase t
  | .int _ | .bool | .str | .unit | .ref _ | .nil | .hole _ => rfl

theorem Ty.den_of_erase {t u : Ty} (h : t.erase = u.erase) : t.den = u.den := by
  rw [← t.den_erase, ← u.den_erase, h]

/-- May a value of the one type be taken for one of the other? What is owned may be sealed, and told as a plain list; 'm': which object of the one side is which of the other. -/
def Ty.may (m : Nat → Nat → Bool) : Ty → Ty → Bool
  | .vec s t, .vec s' t' => t.may m t' && (s == s' || (s' && t'.pure))
  | .vec _ t, .list t' => t.may m t' && t'.pure
  | .list t, .list t' => t.may m t'
  | .one t, .one t' => t.may m t'
  | .pair a b, .pair a' b' => a.may m a' && b.may m b'
  | .arr n t, .arr n' t' => n == n' && t.may m t'
  | .box t, .box t' => t.may m t'
  | .map k v, .map k' v' => k == k' && v.may m v'
  | .ref i, .ref j => m i j
  | .int k, .int k' => k == k'
  | .bool, .bool | .str, .str | .unit, .unit | .nil, .nil => true
  | .hole n, .hole n' => n == n'
  | _, _ => false

def Ty.as (m : Nat → Nat → Bool) (t u : Ty) (x : t.den) : Option u.den :=
  if h : t.erase = u.erase then if t.may m u then some (_root_.cast (Ty.den_of_erase h) x) else none
  else none

/-- The same type, its objects named anew. -/
def Ty.ren (f : Nat → Nat) : Ty → Ty
  | .one t => .one (t.ren f)
  | .pair a b => .pair (a.ren f) (b.ren f)
  | .arr n t => .arr n (t.ren f)
  | .list t => .list (t.ren f)
  | .vec s t => .vec s (t.ren f)
  | .map k v => .map (k.ren f) (v.ren f)
  | .box t => .box (t.ren f)
  | .ref i => .ref (f i)
  | t => t

theorem Ty.erase_ren (f : Nat → Nat) : (t : Ty) → (t.ren f).erase = t.erase
  | .one t => by simp only [Ty.ren, Ty.erase]; rw [erase_ren f t]
  | .pair a b => by simp only [Ty.ren, Ty.erase]; rw [erase_ren f a, erase_ren f b]
  | .arr _ t => by simp only [Ty.ren, Ty.erase]; rw [erase_ren f t]
  | .list t => by simp only [Ty.ren, Ty.erase]; rw [erase_ren f t]
  | .vec _ t => by simp only [Ty.ren, Ty.erase]; rw [erase_ren f t]
  | .map k v => by simp only [Ty.ren, Ty.erase]; rw [erase_ren f k, erase_ren f v]
  | .box t => by simp only [Ty.ren, Ty.erase]; rw [erase_ren f t]
  | .ref _ => rfl
  | .int _ | .bool | .str | .unit | .nil | .hole _ => rfl

def TV.ren (f : Nat → Nat) (v : TV) : TV := ⟨v.t.ren f, _root_.cast (Ty.den_of_erase (v.t.erase_ren f).symm) v.x⟩

def Ty.refs : Ty → List Nat
  | .one t | .arr _ t | .list t | .vec _ t | .box t => t.refs
  | .pair a b | .map a b => a.refs ++ b.refs
  | .ref i => [i]
  | _ => []

end Go.Ev

namespace Go.Ev

inductive AV where
  | any
  | dat (t : Ty) (x : t.den)
  | lb (b : Bool)
  | ptr (id : Nat) (p q : Path) (off ver : Nat)      -- the place at 'p', and from there 'off' cells on, where 'q' leads
  | vptr (t : Ty) (x : t.den)
  | slw (id : Nat) (p : Path) (ver : Nat)
  | sub (id : Nat) (p : Path) (ver : Nat) (off len : Int)
  | mp (id : Nat) (p : Path) (ver : Nat)
  | nil | nsl
  | one (v : AV) | pair (a b : AV)
  | tnil | tup (a b : AV)
  | clo (f : FuncId) (caps : AV)

/-- An object: what it holds, and what happened to it: at which places something was put that is of another make. -/
structure Obj where
  t : Ty
  x : t.den
  ev : List (Bool × Path)

abbrev Heap := Nat → Option Obj
noncomputable def Heap.put (H : Heap) (id : Nat) (o : Option Obj) : Heap := fun n => if n = id then o else H n

structure St where
  tmps : Nat → AV
  heap : Heap

noncomputable def St.put (st : St) (t : Nat) (v : AV) : St := { st with tmps := fun n => if n = t then v else st.tmps n }
noncomputable def St.dst (st : St) (t : Option Nat) (v : AV) : St := match t with | some t => st.put t v | none => st

noncomputable def bytesOf (s : ByteArray) : List Int := s.data.toList.map fun b => (b.toNat : Int)

noncomputable def AV.ofValue : Value → AV
  | .int k n => if k.min ≤ n ∧ n ≤ k.max then .dat (.int k) n else .any
  | .bool b => .lb b
  | .string s => if s.size ≤ 9223372036854775807 then .dat .str (bytesOf s) else .any
  | .pointer none => .nil
  | .slice none 0 0 => .nsl
  | _ => .any

noncomputable def St.eval (st : St) : Operand → AV
  | .tmp t => st.tmps t
  | .const v => AV.ofValue v
  | .func f => .clo f .tnil
  | .global _ => .any

/-! ### Paths -/
noncomputable def Path.plain : Path → Bool
  | [] => true
  | .at _ :: _ => false
  | .d :: _ => false
  | _ :: p => Path.plain p

noncomputable def Path.lit : Path → Bool
  | [] => true
  | .at _ :: _ => false
  | _ :: p => Path.lit p

noncomputable def Path.same : Path → Path → Bool
  | [], [] => true
  | .l :: p, .l :: q | .r :: p, .r :: q | .o :: p, .o :: q | .d :: p, .d :: q => Path.same p q
  | _, _ => false

/-- The same make, whatever the indexes. -/
noncomputable def Path.sim : Path → Path → Bool
  | [], [] => true
  | .l :: p, .l :: q | .r :: p, .r :: q | .o :: p, .o :: q | .d :: p, .d :: q => Path.sim p q
  | .at _ :: p, .at _ :: q => Path.sim p q
  | _, _ => false
/-- Does the second one lie truly below the first one, perhaps? -/
noncomputable def Path.above : Path → Path → Bool
  | [], _ :: _ => true
  | .l :: p, .l :: q | .r :: p, .r :: q | .o :: p, .o :: q | .d :: p, .d :: q => Path.above p q
  | .at _ :: p, .at _ :: q => Path.above p q
  | _, _ => false
noncomputable def hit (e : Bool × Path) (hdr : Bool) (p : Path) : Bool := Path.above e.2 p || (e.1 && hdr && Path.sim e.2 p)
/-- Has nothing happened since that concerns a place? -/
noncomputable def Obj.ok (o : Obj) (hdr : Bool) (p : Path) (ver : Nat) : Bool := (o.ev.drop ver).all fun e => !hit e hdr p

noncomputable def fieldPath : (n j : Nat) → Path
  | 1, _ => [.o]
  | 2, 0 => [.l]
  | 2, _ => [.r]
  | _ + 3, 0 => [.l]
  | n + 3, j + 1 => .r :: fieldPath (n + 2) j
  | 0, _ => []

/-- Where a field lies, and of which type it is. -/
noncomputable def Ty.field : Ty → Path → Option (Nat × Ty)
  | t, [] => some (0, t)
  | .one t, .o :: p => t.field p
  | .pair a _, .l :: p => a.field p
  | .pair a b, .r :: p => (b.field p).map fun (n, t) => (n + a.width, t)
  | _, _ => none

noncomputable def spine : List Ty → Ty
  | [] => .unit
  | [a] => .one a
  | [a, b] => .pair a b
  | a :: b :: c :: r => .pair a (spine (b :: c :: r))

noncomputable def Ty.hard : Ty → Ty
  | .one t => .one t.hard
  | .pair a b => .pair a.hard b.hard
  | .arr n t => .arr n t.hard
  | .list t => .list t.hard
  | .vec _ t => .list t.hard
  | t => t

/-- The type of a zero value. -/
noncomputable def zty (P : Program) : Nat → TypeId → Option Ty
  | 0, _ => none
  | n + 1, T => match P.underlying T with
    | some (.int k) => some (.int k)
    | some .bool => some .bool
    | some .string => some .str
    | some (.struct fs) => (fs.toList.mapM fun f => zty P n f.type).map spine
    | some (.array m e) => (zty P n e).map (.arr m ·)
    | some (.slice e) => (zty P n e).map fun t => .vec false t.hard
    | some (.pointer _) => some .nil
    | _ => none

noncomputable def fuel : Nat := 12

/-- The cells of a zero value. -/
noncomputable def Ty.zcells : Ty → List Value
  | .int k => [.int k 0]
  | .bool => [.bool false]
  | .str => [.string .empty]
  | .unit => []
  | .one t => t.zcells
  | .pair a b => a.zcells ++ b.zcells
  | .arr n t => (List.replicate n t.zcells).flatten
  | .list _ | .vec _ _ => [.slice none 0 0]
  | .nil => [.pointer none]
  | _ => []
/-- May a zero value of it be made? -/
noncomputable def Ty.zok : Ty → Bool
  | .int _ | .bool | .str | .unit | .nil => true
  | .vec s t => !s && t.refs.isEmpty
  | .list t => t.pure
  | .one t | .arr _ t => t.zok
  | .pair a b => a.zok && b.zok
  | _ => false
noncomputable def zeq1 : Value → Value → Bool
  | .int k a, .int j b => k == j && a == b
  | .bool a, .bool b => a == b
  | .string a, .string b => a.size == 0 && b.size == 0
  | .slice none 0 0, .slice none 0 0 => true
  | .pointer none, .pointer none => true
  | _, _ => false
noncomputable def zeqL : List Value → List Value → Bool
  | [], [] => true
  | a :: x, b :: y => zeq1 a b && zeqL x y
  | _, _ => false
noncomputable def zeroOk (P : Program) (T : TypeId) (t : Ty) : Bool :=
  t.zok && match P.info? T with
    | some i => match i.zero with
      | some z => zeqL z.cells.toList t.zcells
      | none => false
    | none => false
/-- A zero value, not in memory. -/
noncomputable def AV.zero : (t : Ty) → AV
  | .one t => if t.pure then .dat (.one t) t.zero else .one (AV.zero t)
  | .pair a b => if a.pure && b.pure then .dat (.pair a b) (a.zero, b.zero) else .pair (AV.zero a) (AV.zero b)
  | .arr n t => if t.pure then .dat (.arr n t) (List.replicate n t.zero) else .any
  | .vec _ _ => .nsl
  | .list _ => .nsl
  | .nil => .nil
  | .int k => .dat (.int k) (0 : Int)
  | .bool => .dat .bool false
  | .str => .dat .str ([] : List Int)
  | .unit => .dat .unit ()
  | _ => .any

/-! ### Reading -/
noncomputable def AV.get (id : Nat) (ver : Nat) : (t : Ty) → t.den → Path → AV
  | .int k, x, _ => .dat (.int k) x
  | .bool, x, _ => .dat .bool x
  | .str, x, _ => .dat .str x
  | .unit, _, _ => .dat .unit ()
  | .one t, x, p => if t.pure then .dat (.one t) x else .one (AV.get id ver t x (p ++ [.o]))
  | .pair a b, x, p => if a.pure && b.pure then .dat (.pair a b) x else .pair (AV.get id ver a x.1 (p ++ [.l])) (AV.get id ver b x.2 (p ++ [.r]))
  | .arr n t, x, _ => if t.pure then .dat (.arr n t) x else .any
  | .list t, x, _ => if t.pure then .dat (.list t) x else .any
  | .vec _ _, _, p => .slw id p ver
  | .map _ _, _, p => .mp id p ver
  | .box _, _, p => .ptr id (p ++ [.d]) [] 0 ver
  | .ref j, _, _ => .ptr j [.d] [] 0 0
  | .nil, _, _ => .nil
  | .hole _, _, _ => .any

/-- A place that is named, if it is what it was. -/
noncomputable def Heap.at (H : Heap) (hdr : Bool) (id : Nat) (p : Path) (ver : Nat) : Option (Obj × TV) :=
  (H id).bind fun o => if o.ok hdr p ver then (o.t.get o.x p).map fun v => (o, v) else none

/-- Where a pointer leads: the place, and what is there. -/
structure Place where
  id : Nat
  p : Path
  o : Obj
  v : TV
noncomputable def Heap.place (H : Heap) : AV → Option Place
  | .ptr id p q off ver => (H.at false id p ver).bind fun (o, u) => match u.t.field q with
    | some (n, _) => if n == off then (u.t.get u.x q).map fun v => ⟨id, p ++ q, o, v⟩ else none
    | none => none
  | _ => none

structure LV where
  e : Ty
  l : List e.den

/-- A list that is read. -/
noncomputable def Heap.list (H : Heap) : AV → Option LV
  | .dat (.list e) l => some ⟨e, l⟩
  | .slw id p ver => (H.at true id p ver).bind fun (_, v) => match v with
    | ⟨.vec _ e, l⟩ => some ⟨e, l⟩
    | _ => none
  | .sub id p ver off len => (H.at true id p ver).bind fun (_, v) => match v with
    | ⟨.vec _ e, l⟩ => some ⟨e, Ev.sub (α := e.den) l off (iadd off len)⟩
    | _ => none
  | _ => none

noncomputable def noM (_ _ : Nat) : Bool := false

/-- Another thing at a place: the object behind it. -/
noncomputable def Obj.set (o : Obj) (p : Path) (v : TV) (e : List (Bool × Path)) : Option Obj := (o.t.set o.x p v).map fun w => ⟨w.t, w.x, o.ev ++ e⟩

/-- What is owned at a place, sealed. -/
noncomputable def Heap.harden (H : Heap) (id : Nat) (p : Path) (ver : Nat) : Option (LV × Heap) :=
  (H.at true id p ver).bind fun (o, v) => match v with
    | ⟨.vec true e, l⟩ => if e.pure then some (⟨e, l⟩, H) else none
    | ⟨.vec false e, l⟩ =>
      if Path.lit p && e.hard.pure then
        (Ty.as noM (.vec false e) (.vec true e.hard) l).bind fun l' =>
          (o.set p ⟨.vec true e.hard, l'⟩ [(false, p)]).map fun o' => (⟨e.hard, l'⟩, H.put id (some o'))
      else none
    | _ => none

/-- Data of a type. -/
noncomputable def Heap.dat (H : Heap) : AV → (t : Ty) → Option (t.den × Heap)
  | .dat u x, t => (Ty.as noM u t x).map (·, H)
  | .lb b, .bool => some (b, H)
  | .slw id p ver, t => (H.harden id p ver).bind fun (v, H') => (Ty.as noM (.list v.e) t v.l).map (·, H')
  | .sub id p ver off len, t => (H.harden id p ver).bind fun (v, H') => (Ty.as noM (.list v.e) t (Ev.sub (α := v.e.den) v.l off (iadd off len))).map (·, H')
  | .nsl, .list t => if t.pure then some (([] : List t.den), H) else none
  | .one a, .one t => H.dat a t
  | .pair a b, .pair t u => (H.dat a t).bind fun (x, H1) => (H1.dat b u).map fun (y, H2) => ((x, y), H2)
  | _, _ => none

/-- What is owned, taken away from where it stands. -/
noncomputable def Heap.take (H : Heap) (id : Nat) (p : Path) (o : Obj) : Option Heap :=
  match p with
  | [] => some (H.put id none)
  | p => if Path.lit p then (o.set p ⟨.hole 1, ()⟩ []).map fun o' => H.put id (some o') else none

/-- What is to be stored: what is owned is moved. 'u': what stood there. -/
noncomputable def Heap.tv (H : Heap) : AV → (u : Ty) → Option (TV × Heap)
  | .dat t x, _ => some (⟨t, x⟩, H)
  | .lb b, _ => some (⟨.bool, b⟩, H)
  | .slw id p ver, _ => (H.at true id p ver).bind fun (o, v) => match v with
    | ⟨.vec false e, l⟩ => (H.take id p o).map fun H' => (⟨.vec false e, l⟩, H')
    | ⟨.vec true e, l⟩ => match p with
      | [] => some (⟨.vec true e, l⟩, H.put id none)
      | _ => if e.pure then some (⟨.list e, l⟩, H) else none
    | _ => none
  | .sub id p ver off len, _ => (H.harden id p ver).map fun (v, H') => (⟨.list v.e, Ev.sub (α := v.e.den) v.l off (iadd off len)⟩, H')
  | .mp id p ver, _ => (H.at true id p ver).bind fun (o, v) => match v with
    | ⟨.map k e, l⟩ => (H.take id p o).map fun H' => (⟨.map k e, l⟩, H')
    | _ => none
  | .ptr id [.d] [] 0 ver, _ => (H.at false id [.d] ver).bind fun (o, _) => match o.t with
    | .box _ => some (⟨.ref id, ()⟩, H)
    | _ => none
  | .nil, _ => some (⟨.nil, ()⟩, H)
  | .nsl, .vec _ e => if e.refs.isEmpty then some (⟨.vec false e, ([] : List e.den)⟩, H) else none
  | .nsl, .list e => if e.refs.isEmpty then some (⟨.vec false e, ([] : List e.den)⟩, H) else none
  | .one a, u => (H.tv a (match u with | .one u => u | u => u)).map fun (v, H') => (⟨.one v.t, v.x⟩, H')
  | .pair a b, u => (H.tv a (match u with | .pair t _ => t | u => u)).bind fun (v, H1) =>
      (H1.tv b (match u with | .pair _ t => t | u => u)).map fun (w, H2) => (⟨.pair v.t w.t, (v.x, w.x)⟩, H2)
  | _, _ => none

def Ty.leaf : Ty → Bool
  | .int _ | .bool | .str | .unit | .list _ | .ref _ | .nil | .hole _ => true
  | _ => false

noncomputable def isAggT (P : Program) (T : TypeId) : Option Bool :=
  match P.underlying T with
  | some (.struct _) | some (.array _ _) => some true
  | some _ => some false
  | none => none

/-- Does a type of the program take so many cells? -/
noncomputable def szOk (P : Program) (T : TypeId) (n : Nat) : Bool := match P.info? T with | some i => i.size == n | none => false

noncomputable def Ty.isHole : Ty → Bool
  | .hole _ => true
  | _ => false

noncomputable def cellsOk (P : Program) (T : TypeId) (t : Ty) : Bool :=
  !t.isHole && (match P.info? T with | some i => i.size == t.width | none => false) && isAggT P T == some t.isAgg

/-- A store at a place. -/
noncomputable def Heap.store (P : Program) (H : Heap) (T : TypeId) (a v : AV) : Option Heap :=
  (H.place a).bind fun pl => (H.tv v pl.v.t).bind fun (w, H1) =>
    (H1.place a).bind fun pl1 =>
      if cellsOk P T w.t && w.t.width == pl1.v.t.width then
        (if Path.lit pl1.p then some w else (Ty.as noM w.t pl1.v.t w.x).map (⟨pl1.v.t, ·⟩)).bind fun w' =>
          (pl1.o.set pl1.p w' (if pl1.v.t.leaf && w'.t.leaf then [] else [(true, pl1.p)])).map fun o' => H1.put pl1.id (some o')
      else none

/-! ### Lists of leaves -/
@[reducible] def HL : List Ty → Type
  | [] => Unit
  | t :: r => t.den × HL r
@[reducible] def Tys : List Ty → Type
  | [] => Unit
  | [t] => t.den
  | t :: u :: r => t.den × Tys (u :: r)
noncomputable def HL.pk : (ts : List Ty) → HL ts → Tys ts
  | [], _ => ()
  | [_], x => x.1
  | _ :: u :: r, x => (x.1, HL.pk (u :: r) x.2)
noncomputable def HL.un : (ts : List Ty) → Tys ts → HL ts
  | [], _ => ()
  | [_], x => (x, ())
  | _ :: u :: r, x => (x.1, HL.un (u :: r) x.2)
noncomputable def HL.app : (a b : List Ty) → HL a → HL b → HL (a ++ b)
  | [], _, _, y => y
  | _ :: r, b, x, y => (x.1, HL.app r b x.2 y)
noncomputable def HL.fst : (a b : List Ty) → HL (a ++ b) → HL a
  | [], _, _ => ()
  | _ :: r, b, x => (x.1, HL.fst r b x.2)
noncomputable def HL.snd : (a b : List Ty) → HL (a ++ b) → HL b
  | [], _, x => x
  | _ :: r, b, x => HL.snd r b x.2

noncomputable def i64 : Ty := .int .i64

/-- What of a value is data. -/
noncomputable def AV.leaves : AV → List Ty
  | .dat t _ => [t]
  | .sub .. => [i64, i64]
  | .one a => a.leaves
  | .pair a b | .tup a b => a.leaves ++ b.leaves
  | .clo _ c => c.leaves
  | _ => []
noncomputable def AV.fill : (v : AV) → HL v.leaves → AV
  | .dat t _, x => .dat t x.1
  | .sub id p ver _ _, x => .sub id p ver x.1 x.2.1
  | .one a, x => .one (a.fill x)
  | .pair a b, x => .pair (a.fill (HL.fst _ _ x)) (b.fill (HL.snd _ _ x))
  | .tup a b, x => .tup (a.fill (HL.fst _ _ x)) (b.fill (HL.snd _ _ x))
  | .clo f c, x => .clo f (c.fill x)
  | v, _ => v

/-- Which name of a shape is which place. -/
abbrev Asg := List (Nat × Nat × Path)
noncomputable def Asg.find (g : Asg) (j : Nat) : Option (Nat × Path) := (g.find? fun a => a.1 == j).map (·.2)
noncomputable def Asg.add (g : Asg) (j id : Nat) (p : Path) : Option Asg :=
  match g.find j with
  | some (id', p') => if id' == id && Path.same p' p then some g else none
  | none => if g.any (fun a => a.2.1 == id) then none else some (g ++ [(j, id, p)])

/-- The place whose content a pointer points to. -/
noncomputable def Path.unbox : Path → Option Path
  | [.d] => some []
  | s :: p => (Path.unbox p).map (s :: ·)
  | [] => none

/-- Is a value one of several? -/
def isT : AV → Bool
  | .tup _ _ | .tnil => true
  | _ => false

/-- Which place of an object a handle of a shape is. -/
noncomputable def ptrName (ver' : Nat) (p' q' : Path) (off' : Nat) (p q : Path) (off : Nat) : Option Path :=
  if ver' != 0 then none else if Path.same p' [.d] && q'.isEmpty && off' == 0 then (if q.isEmpty && off == 0 then Path.unbox p else none)
  else if Path.same p' p && Path.same q' q && off' == off then some [] else none
noncomputable def hdrName (ver' : Nat) (p' p : Path) : Option Path := if ver' != 0 then none else if p'.isEmpty then some p else if Path.same p' p then some [] else none

/-- A value held against a shape: its data, and which name is which place. -/
noncomputable def AV.mat : (s : AV) → AV → Heap → Asg → Option (HL s.leaves × Heap × Asg)
  | .any, _, H, g => some ((), H, g)
  | .dat t _, v, H, g => if t.pure then (H.dat v t).map fun (x, H') => ((x, ()), H', g) else none
  | .ptr j p' q' off' ver', v, H, g => match v with
    | .ptr id p q off _ => (ptrName ver' p' q' off' p q off).bind fun q => (g.add j id q).map fun g' => ((), H, g')
    | _ => none
  | .slw j p' ver', v, H, g => match v with
    | .slw id p _ => (hdrName ver' p' p).bind fun q => (g.add j id q).map fun g' => ((), H, g')
    | _ => none
  | .mp j p' ver', v, H, g => match v with
    | .mp id p _ => (hdrName ver' p' p).bind fun q => (g.add j id q).map fun g' => ((), H, g')
    | _ => none
  | .sub j p' ver' _ _, v, H, g => match v with
    | .sub id p _ off len => (hdrName ver' p' p).bind fun q => (g.add j id q).map fun g' => ((off, len, ()), H, g')
    | _ => none
  | .nil, v, H, g => match v with
    | .nil => some ((), H, g)
    | _ => none
  | .nsl, v, H, g => match v with
    | .nsl => some ((), H, g)
    | _ => none
  | .tnil, v, H, g => match v with
    | .tnil => some ((), H, g)
    | _ => none
  | .one a, v, H, g => match v with
    | .one v => a.mat v H g
    | .dat (.one t) x => a.mat (.dat t x) H g
    | _ => none
  | .pair a b, v, H, g => match v with
    | .pair v w => (a.mat v H g).bind fun (x, H1, g1) => (b.mat w H1 g1).map fun (y, H2, g2) => (HL.app _ _ x y, H2, g2)
    | .dat (.pair t u) x => (a.mat (.dat t x.1) H g).bind fun (y, H1, g1) => (b.mat (.dat u x.2) H1 g1).map fun (z, H2, g2) => (HL.app _ _ y z, H2, g2)
    | _ => none
  | .tup a b, v, H, g => match v with
    | .tup v w => if isT b then (a.mat v H g).bind fun (x, H1, g1) => (b.mat w H1 g1).map fun (y, H2, g2) => (HL.app _ _ x y, H2, g2) else none
    | _ => none
  | .clo f c, v, H, g => match v with
    | .clo f' c' => if f == f' && isT c then c.mat c' H g else none
    | _ => none
  | .lb _, _, _, _ | .vptr _ _, _, _, _ => none

/-- Is what a value names, as far as a shape speaks of it, what it was? -/
noncomputable def AV.fit (H : Heap) : AV → AV → Bool
  | .ptr .., v => match v with
    | .ptr id p _ _ ver => (H.at false id p ver).isSome
    | _ => true
  | .slw .., v => match v with
    | .slw id p ver => (H.at true id p ver).isSome
    | _ => true
  | .mp .., v => match v with
    | .mp id p ver => (H.at true id p ver).isSome
    | _ => true
  | .sub .., v => match v with
    | .sub id p ver _ _ => (H.at true id p ver).isSome
    | _ => true
  | .one a, v => match v with
    | .one v => a.fit H v
    | _ => true
  | .pair a b, v => match v with
    | .pair v w => a.fit H v && b.fit H w
    | _ => true
  | .tup a b, v => match v with
    | .tup v w => a.fit H v && b.fit H w
    | _ => true
  | .clo _ c, v => match v with
    | .clo _ c' => c.fit H c'
    | _ => true
  | _, _ => true

/-- The names of a value. -/
noncomputable def AV.ids : AV → List Nat
  | .ptr id _ _ _ _ | .slw id _ _ | .sub id _ _ _ _ | .mp id _ _ => [id]
  | .one a => a.ids
  | .pair a b | .tup a b => a.ids ++ b.ids
  | .clo _ c => c.ids
  | _ => []

/-- The objects of a shape, each named by its place in the list from 'base' on, held against what there is: their data. -/
noncomputable def Ty.refsWith : Ty → Ty → List (Nat × Nat)
  | t, u => u.refs.zip t.refs

noncomputable def objMat (H : Heap) : (js : List (Nat × Ty)) → Asg → Option (HL (js.map (·.2)) × Asg)
  | [], g => some ((), g)
  | (j, u) :: r, g => (g.find j).bind fun (id, q) => (H id).bind fun o => if !Path.lit q then none else (o.t.get o.x q).bind fun v =>
    if v.t.width != 1 || r.any (fun a => a.1 == j) then none else
    ((Ty.refsWith v.t u).foldlM (fun (g : Asg) (a : Nat × Nat) => g.add a.1 a.2 []) g).bind fun g' =>
      (Ty.as (fun i j => match g'.find j with | some (i', []) => i' == i | _ => false) v.t u v.x).bind fun y =>
        (objMat H r g').map fun (ys, g2) => ((y, ys), g2)

end Go.Ev

namespace Go.Ev

noncomputable def w64 (x : Int) : Int := shut (IntKind.wrap .i64 x)
theorem w64_eq (x : Int) : w64 x = IntKind.wrap .i64 x := shut_eq _
noncomputable def wrapK' (k : IntKind) (x : Int) : Int := shut (k.wrap x)
theorem wrapK'_eq (k : IntKind) (x : Int) : wrapK' k x = k.wrap x := shut_eq _
noncomputable def wrapK (k : IntKind) (x : Int) : Int := match k with | .i64 => w64 x | k => wrapK' k x
noncomputable def bitK (op : BinOp) (k : IntKind) (x y : Int) : Int := shut <|
  let a := BitVec.ofInt k.bits x
  let b := BitVec.ofInt k.bits y
  match op with
  | .and => k.wrap (a &&& b).toNat
  | .or => k.wrap (a ||| b).toNat
  | .xor => k.wrap (a ^^^ b).toNat
  | _ => k.wrap (a &&& ~~~b).toNat

/-- Lists of bytes, byte by byte. -/
def ltB : List Int → List Int → Bool
  | _, [] => false
  | [], _ :: _ => true
  | a :: x, b :: y => decide (a < b) || (decide (a = b) && ltB x y)
def eqA {α : Type} (f : α → α → Bool) : List α → List α → Bool
  | [], [] => true
  | a :: x, b :: y => f a b && eqA f x y
  | _, _ => false
noncomputable def ltL (x y : List Int) : Bool := shut (ltB x y)
theorem ltL_eq (x y : List Int) : ltL x y = ltB x y := shut_eq _
noncomputable def allEq {α : Type} (f : α → α → Bool) (x y : List α) : Bool := shut (eqA f x y)
theorem allEq_eq {α : Type} (f : α → α → Bool) (x y : List α) : allEq f x y = eqA f x y := shut_eq _

noncomputable def Ty.cmp : Ty → Bool
  | .int _ | .bool | .str | .unit => true
  | .one t => t.cmp
  | .pair a b => a.cmp && b.cmp
  | _ => false

noncomputable def Ty.eqb : (t : Ty) → t.den → t.den → Bool
  | .int _, x, y => bEq x y
  | .bool, x, y => bIff x y
  | .str, x, y => sEq x y
  | .one t, x, y => t.eqb x y
  | .pair a b, x, y => bAnd (a.eqb x.1 y.1) (b.eqb x.2 y.2)

  | _, _, _ => true

/-- Do fields stand for the parts of an abstract type? -/
noncomputable def descGo (P : Program) (d : TypeId → Ty → Bool) : List Field → Nat → Ty → Bool
  | [], _, .unit => true
  | [f], off, .one t => f.offset == off && f.name != "_" && d f.type t && szOk P f.type (t.width)
  | [f, g], off, .pair a b => f.offset == off && f.name != "_" && d f.type a && szOk P f.type (a.width) &&
      g.offset == off + a.width && g.name != "_" && d g.type b && szOk P g.type (b.width)
  | f :: g :: h :: r, off, .pair a b => f.offset == off && f.name != "_" && d f.type a && szOk P f.type (a.width) && descGo P d (g :: h :: r) (off + a.width) b
  | _, _, _ => false

/-- Does a type of the program stand for an abstract one, field by field? -/
noncomputable def descOk (P : Program) : Nat → TypeId → Ty → Bool
  | 0, _, _ => false
  | n + 1, T, t => match P.underlying T, t with
    | some (.int k), .int k' => k == k'
    | some .bool, .bool => true
    | some .string, .str => true
    | some (.array m e), .arr m' t' => m == m' && descOk P n e t' && szOk P e (t'.width)
    | some (.struct fs), t => descGo P (descOk P n) fs.toList 0 t && !P.stoodInHeld T
    | _, _ => false

noncomputable def AV.unlb : AV → AV
  | .lb b => .dat .bool b
  | v => v

noncomputable def isPtrT (P : Program) (T : TypeId) : Bool := match P.underlying T with | some (.pointer _) => true | _ => false

noncomputable def evBin {R : Type} (P : Program) (op : BinOp) (T : TypeId) (x y : AV) (k : AV → Option R) : Option R :=
  match x.unlb, y.unlb with
  | .dat (.int i) a, .dat (.int j) b =>
    let a : Int := a
    let b : Int := b
    match op with
    | .shl => grd (iLe 0 b) (k (.dat (.int i) (wrapK i (ishl a (min b.toNat i.bits)))))
    | .shr => grd (iLe 0 b) (k (.dat (.int i) (ishr a (min b.toNat i.bits))))
    | op => if i == j then match op with
      | .add => k (.dat (.int i) (wrapK i (iadd a b)))
      | .sub => k (.dat (.int i) (wrapK i (isub a b)))
      | .mul => k (.dat (.int i) (wrapK i (imul a b)))
      | .quo => grd (iNz b) (k (.dat (.int i) (wrapK i (iquo a b))))
      | .rem => grd (iNz b) (k (.dat (.int i) (irem a b)))
      | .and | .or | .xor | .andNot => k (.dat (.int i) (bitK op i a b))
      | .eql => k (.dat .bool (bEq a b))
      | .neq => k (.dat .bool (bNot (bEq a b)))
      | .lss => k (.dat .bool (bLt a b))
      | .leq => k (.dat .bool (bLe a b))
      | .gtr => k (.dat .bool (bLt b a))
      | .geq => k (.dat .bool (bLe b a))
      | _ => none
      else none
  | .dat .str a, .dat .str b =>
    let a : List Int := a
    let b : List Int := b
    match op with
    | .add => grd (iLe (iadd (ln a) (ln b)) 9223372036854775807) (k (.dat .str (app a b)))
    | .eql => k (.dat .bool (sEq a b))
    | .neq => k (.dat .bool (bNot (sEq a b)))
    | .lss => k (.dat .bool (ltL a b))
    | .leq => k (.dat .bool (bOr (ltL a b) (sEq a b)))
    | .gtr => k (.dat .bool (bNot (bOr (ltL a b) (sEq a b))))
    | .geq => k (.dat .bool (bNot (ltL a b)))
    | _ => none
  | .nil, .nil => if isPtrT P T then match op with
    | .eql => k (.lb true)
    | .neq => k (.lb false)
    | _ => none
    else none
  | .ptr .., .nil | .nil, .ptr .. => if isPtrT P T then match op with
    | .eql => k (.lb false)
    | .neq => k (.lb true)
    | _ => none
    else none
  | .vptr .., .nil | .nil, .vptr .. => if isPtrT P T then match op with
    | .eql => k (.lb false)
    | .neq => k (.lb true)
    | _ => none
    else none
  | .dat t a, .dat u b => if h : t = u then
      if t.cmp && descOk P fuel T t && !P.eqGuardType P.depth T then match op with
      | .eql => k (.dat .bool (u.eqb (h ▸ a) b))
      | .neq => k (.dat .bool (bNot (u.eqb (h ▸ a) b)))
      | _ => none
      else none
    else none
  | _, _ => none

noncomputable def evUn {R : Type} (op : UnOp) (x : AV) (k : AV → Option R) : Option R :=
  match op, x with
  | .not, .lb b => k (.lb (!b))
  | .not, .dat .bool b => k (.dat .bool (bNot b))
  | .neg, .dat (.int i) a => k (.dat (.int i) (wrapK i (isub 0 a)))
  | _, _ => none

noncomputable def AV.norm : AV → AV
  | .one v => match v.norm with
    | .dat t x => .dat (.one t) x
    | v => .one v
  | .pair a b => match a.norm, b.norm with
    | .dat t x, .dat u y => .dat (.pair t u) (x, y)
    | a, b => .pair a b
  | .lb b => .dat .bool b
  | v => v

noncomputable def spineAV : List AV → AV
  | [] => .dat .unit ()
  | [a] => .one a
  | [a, b] => .pair a b
  | a :: b :: c :: r => .pair a (spineAV (b :: c :: r))

/-- How many cells a value has. -/
noncomputable def AV.width : AV → Option Nat
  | .dat t _ => some t.width
  | .lb _ => some 1
  | .ptr .. | .vptr .. | .slw .. | .sub .. | .mp .. | .nil | .nsl | .clo .. => some 1
  | .one v => v.width
  | .pair a b => a.width.bind fun n => b.width.map (n + ·)
  | _ => none

/-- A part of a value, and where it lies. -/
noncomputable def AV.projAt : AV → Path → Option (Nat × AV)
  | v, [] => some (0, v)
  | .one v, .o :: p => v.projAt p
  | .pair a _, .l :: p => a.projAt p
  | .pair a b, .r :: p => a.width.bind fun n => (b.projAt p).map fun (k, v) => (n + k, v)
  | .dat (.one t) x, .o :: p => (AV.dat t x).projAt p
  | .dat (.pair a _) x, .l :: p => (AV.dat a x.1).projAt p
  | .dat (.pair a b) x, .r :: p => ((AV.dat b x.2).projAt p).map fun (k, v) => (a.width + k, v)
  | _, _ => none

def AV.agg : AV → Option Bool
  | .dat t _ => some t.isAgg
  | .one _ | .pair _ _ => some true
  | .any => none
  | _ => some false

noncomputable def AV.ext : AV → Nat → Option AV
  | .tup a _, 0 => some a
  | .tup _ b, i + 1 => b.ext i
  | _, _ => none

noncomputable def tupL : List AV → AV
  | [] => .tnil
  | a :: r => .tup a (tupL r)
noncomputable def tupAV : List AV → AV
  | [a] => a
  | l => tupL l

/-- A list that is appended: read, or moved where its elements own something. -/
noncomputable def Heap.srcl (H : Heap) : AV → Option (LV × Heap)
  | .dat .str x => some (⟨.int .u8, x⟩, H)
  | v => (H.list v).bind fun l => if l.e.pure then some (l, H) else match v with
    | .slw id [] _ => some (l, H.put id none)
    | _ => none

noncomputable def Ty.asL (t u : Ty) (x : List t.den) : Option (List u.den) :=
  if u.pure then Ty.as noM (.vec false t) (.list u) x else Ty.as noM (.vec false t) (.vec false u) x

/-- Has a type so many cells, bytes at all, and a zero value of as many cells? -/
noncomputable def zcOk (P : Program) (e : TypeId) (m : Nat) : Bool := match P.info? e with
  | some i => i.size == m && i.bytes != 0 && (match i.zero with | some z => z.cells.size == m | none => false)
  | none => false
noncomputable def appTy (P : Program) (ats : Array TypeId) : Bool := match ats[1]? with
  | none => true
  | some U => match P.underlying U with
    | some .string => true
    | some (.slice _) => true
    | _ => false

noncomputable def evAppend {R : Type} (P : Program) (e : TypeId) (H : Heap) (n : Nat) (s x : AV) (k : AV → Heap → Option R) : Option R :=
  match s with
  | .nsl => (H.srcl x).bind fun (v, H1) =>
    if zcOk P e v.e.width then grd (iLe (imul (ln v.l) (P.bytesOf e : Int)) 140737488355328) (k (.slw n [] 0) (H1.put n (some ⟨.vec false v.e, v.l, []⟩))) else none
  | .slw id p ver => (H.srcl x).bind fun (v, H1) => (H1.at true id p ver).bind fun (o, t) => match t with
    | ⟨.vec s te, l⟩ =>
      if zcOk P e te.width && (!s || te.pure) then
        (Ty.asL v.e te v.l).bind fun m => (H1.take id p o).bind fun H2 =>
          grd (iLe (imul (iadd (ln l) (ln v.l)) (P.bytesOf e : Int)) 140737488355328)
            (k (.slw n [] 0) (H2.put n (some ⟨.vec s te, (app (α := te.den) l m), []⟩)))
      else none
    | _ => none
  | _ => none

noncomputable def optI (x : AV) : Option Int := match x with | .dat (.int _) a => some a | _ => none

/-- A piece of a list or of a text: all three bounds within what is there. -/
noncomputable def evSlice {R : Type} (P : Program) (T : TypeId) (H : Heap) (x : AV) (lo hi mx : Option AV) (k : AV → Heap → Option R) : Option R :=
  let bound (v : Option AV) (d : Int) (f : Int → Option R) : Option R := match v with
    | none => f d
    | some v => (optI v).bind f
  let go (n : Int) (f : Int → Int → Option R) : Option R :=
    bound mx n fun m => bound hi n fun h => bound lo 0 fun l =>
      (match lo with | none => id | some _ => grd (iLe 0 l))
      ((match lo, hi with | none, none => id | none, some _ => grd (iLe 0 h) | _, _ => grd (iLe l h))
      ((match hi, mx with | none, none => id | _, some _ => grd (iLe h m) | some _, none => grd (iLe h n))
      ((match mx with | none => id | some _ => grd (iLe m n))
      (f l h))))
  match P.underlying T, x with
  | some .string, .dat .str s => let s : List Int := s; if mx.isSome then none else go (ln s) fun l h => k (.dat .str (sub s l h : List Int)) H
  | some (.slice e), .dat (.list t) s => if szOk P e (t.width) then go (ln (α := t.den) s) fun l h => k (.dat (.list t) (sub (α := t.den) s l h)) H else none
  | some (.slice e), .slw id p ver => (H.at true id p ver).bind fun (_, v) => match v with
    | ⟨.vec _ t, s⟩ => if szOk P e (t.width) then go (ln (α := t.den) s) fun l h => k (.sub id p ver l (isub h l)) H else none
    | _ => none
  | some (.slice _), .nsl => go 0 fun _ _ => k .nsl H
  | _, _ => none

/-- What a call does: its answer, and the objects behind it. -/
abbrev Handler := (R : Type) → FuncId → List AV → Heap → Nat → (AV → Heap → Nat → Option R) → Option R

/-- Is a function one that has a body, and is entered? -/
noncomputable def callOk (P : Program) (f : FuncId) : Bool := match P.funcs[f]? with
  | some fn => !(fn.name == "runtime.NumGoroutine") && fn.body.isSome
  | none => false

noncomputable def evCall {R : Type} (P : Program) (C : Handler) (c : Call) (st : St) (n : Nat) (k : AV → Heap → Option R) : Option R :=
  let args := c.args.toList.map st.eval
  match c.callee with
  | .builtin .len => match c.argTypes[0]?, args with
    | some T, [x] => match P.underlying T, x with
      | some .string, .dat .str s => k (.dat i64 (ln (α := Int) s)) st.heap
      | some (.slice _), .nsl => k (.dat i64 (0 : Int)) st.heap
      | some (.slice _), v => (st.heap.list v).bind fun l => k (.dat i64 (ln l.l)) st.heap
      | _, _ => none
    | _, _ => none
  | .builtin .append => match c.argTypes[0]?, args with
    | some T, [s, x] => match P.underlying T with
      | some (.slice e) => if appTy P c.argTypes then evAppend P e st.heap n s x k else none
      | _ => none
    | _, _ => none
  | .builtin .min => match args with
    | [.dat (.int i) a, .dat (.int j) b] => if i == j then k (.dat (.int i) (imin a b)) st.heap else none
    | _ => none
  | .builtin .max => match args with
    | [.dat (.int i) a, .dat (.int j) b] => if i == j then k (.dat (.int i) (imax a b)) st.heap else none
    | _ => none
  | _ => none

noncomputable def AV.capsL : AV → List AV
  | .tup a b => a :: b.capsL
  | _ => []
/-- The call of a function of the program. -/
noncomputable def evUser {R : Type} (P : Program) (C : Handler) (c : Call) (st : St) (n : Nat) (k : AV → Heap → Nat → Option R) : Option R :=
  match c.callee with
  | .value f => match st.eval f with
    | .clo f caps => if callOk P f then C R f (c.args.toList.map st.eval ++ caps.capsL) st.heap n k else none
    | _ => none
  | _ => none

noncomputable def evConv {R : Type} (P : Program) (src dst : TypeId) (x : AV) (H : Heap) (n : Nat) (k : AV → Heap → Option R) : Option R :=
  match P.underlying src, P.underlying dst, x with
  | some (.int i), some (.int j), .dat (.int i') a => if i == i' then (if i == j then k (.dat (.int i) a) H else k (.dat (.int j) (wrapK j a)) H) else none
  | some .string, some .string, .dat .str s => k (.dat .str s) H
  | some (.slice e), some .string, v => match P.underlying e, v with
    | some (.int .u8), .nsl => k (.dat .str ([] : List Int)) H
    | some (.int .u8), v => match H.list v with
      | some ⟨.int .u8, l⟩ => k (.dat .str l) H
      | _ => none
    | _, _ => none
  | _, _, _ => none


end Go.Ev

namespace Go.Ev
/-- Do fields lie one behind the other? -/
noncomputable def layOk (P : Program) : List Field → Nat → Bool
  | [], _ => true
  | f :: r, off => f.offset == off && (P.info? f.type).isSome && layOk P r (off + P.cellsOf f.type)
noncomputable def laySize (P : Program) (fs : List Field) : Nat := (fs.map fun f => P.cellsOf f.type).sum
noncomputable def distinct : List Nat → Bool
  | [] => true
  | a :: r => !r.contains a && distinct r

/-- The rest of what a slice is built of, each taken for what the first one is. -/
noncomputable def evParts (z t : Ty) : List AV → Heap → Option (List t.den × Heap)
  | [], H => some ([], H)
  | y :: r, H => (H.tv y z).bind fun (w, H1) => (Ty.as noM w.t t w.x).bind fun q => (evParts z t r H1).map fun (l, H2) => (q :: l, H2)

/-- Is a slice nil? Of one that has nothing it is not known: both go on alike. -/
noncomputable def slNil {R : Type} (n : Int) (f : Bool → Option R) : Option R := br (bEq n 0) (both (f true) (f false)) (f false)
noncomputable def slCmp (P : Program) (T : TypeId) : BinOp → Bool
  | .eql | .neq => match P.underlying T with
    | some (.slice _) => true
    | _ => false
  | _ => false
noncomputable def slOut : BinOp → Bool → Bool
  | .eql, b => b
  | _, b => !b
noncomputable def evSl {R : Type} (P : Program) (H : Heap) (op : BinOp) (T : TypeId) (x y : AV) (k : AV → Option R) : Option R :=
  if slCmp P T op then match y with
    | .nsl => match x with
      | .nsl => k (.lb (slOut op true))
      | v => (H.list v).bind fun l => slNil (ln l.l) fun b => k (.lb (slOut op b))
    | _ => none
  else evBin P op T x y k

/-- Whoever gives one thing alone. -/
noncomputable def opNt (P : Program) : Op → Bool
  | .binOp op t _ _ _ => !slCmp P t op
  | _ => true

noncomputable def evOp {R : Type} (P : Program) (C : Handler) (op : Op) (T : TypeId) (st : St) (n : Nat) (k : AV → Heap → Option R) : Option R :=
  let H := st.heap
  let ρ := st.eval
  match op with
  | .move x => k (ρ x) H
  | .assign x => match ρ x with
    | .nsl => match P.underlying T with
      | some (.slice e) => (zty P fuel e).bind fun t => if t.hard.refs.isEmpty then k (.slw n [] 0) (H.put n (some ⟨.vec false t.hard, ([] : List t.hard.den), []⟩)) else none
      | _ => none
    | v => k v H
  | .pick c a b => match ρ c with
    | .lb t => if t = true then k (ρ a) H else k (ρ b) H
    | .dat .bool t => br t (k (ρ a) H) (k (ρ b) H)
    | _ => none
  | .alloc e => (zty P fuel e).bind fun t => if cellsOk P e t && zeroOk P e t then k (.ptr n [.d] [] 0 0) (H.put n (some ⟨.box t, t.zero, []⟩)) else none
  | .box e x => (zty P fuel e).bind fun t => (H.tv (ρ x) t).bind fun (v, H1) => if cellsOk P e v.t then k (.ptr n [.d] [] 0 0) (H1.put n (some ⟨.box v.t, v.x, []⟩)) else none
  | .build t parts => match P.underlying t, P.info? t with
    | some (.struct fs), some info => match info.zero with
      | some zero =>
        if layOk P fs.toList 0 && zero.cells.size == info.size && info.size == laySize P fs.toList && distinct (parts.toList.map (·.1)) && parts.toList.all (fun (p : Nat × Operand) => match fs.toList[p.1]? with | some f => (ρ p.2).width == some (P.cellsOf f.type) | none => false) then
        ((fs.toList.zipIdx).mapM fun ((f, j) : Field × Nat) => match parts.toList.find? (fun (p : Nat × Operand) => p.1 == j) with
          | some (_, x) => some (ρ x)
          | none => (zty P fuel f.type).bind fun z =>
              if z.zok && szOk P f.type z.width && zeqL ((zero.cells.toList.drop f.offset).take (P.cellsOf f.type)) z.zcells then some (AV.zero z) else none).bind fun l => k (spineAV l).norm H
        else none
      | none => none
    | _, _ => none
  | .buildSlice t len parts => match P.underlying t with
    | some (.slice e) => (zty P fuel e).bind fun z =>
      if parts.toList.map (·.1) == List.range len && decide (len * P.cellsOf e ≤ 2 ^ 24) && decide (len ≤ 2 ^ 24) then
        match parts.toList.map (fun p => ρ p.2) with
        | [] => if zcOk P e z.hard.width && z.hard.refs.isEmpty then k (.slw n [] 0) (H.put n (some ⟨.vec false z.hard, ([] : List z.hard.den), []⟩)) else none
        | x :: r => (H.tv x z).bind fun (v, H1) =>
          if zcOk P e v.t.width then (evParts z v.t r H1).bind fun (l, H2) => k (.slw n [] 0) (H2.put n (some ⟨.vec false v.t, v.x :: l, []⟩))
          else none
      else none
    | _ => none
  | .load t a => match ρ a with
    | .vptr u x => if cellsOk P t u then k (.dat u x) H else none
    | v => (H.place v).bind fun pl => if cellsOk P t pl.v.t then k (AV.get pl.id pl.o.ev.length pl.v.t pl.v.x pl.p) H else none
  | .store t a x => (H.store P t (ρ a) (ρ x)).bind fun H' => k .any H'
  | .nilCheck x => match ρ x with
    | .ptr id p q off ver => k (.ptr id p q off ver) H
    | .vptr t y => k (.vptr t y) H
    | .clo f c => k (.clo f c) H
    | _ => none
  | .binOp op t x y _ => evSl P H op t (ρ x) (ρ y) fun v => k v H
  | .unOp op _ x => evUn op (ρ x) fun v => k v H
  | .convert s d x => evConv P s d (ρ x) H n k
  | .makeFunc fn first caps => match fn with
    | .func f => if first.toList.isEmpty then k (.clo f (tupL (caps.toList.map ρ))) H else none
    | _ => none
  | .makeSlice t l c => match P.underlying t, ρ l, ρ c with
    | some (.slice e), .dat (.int .i64) a, .dat (.int .i64) b => (zty P fuel e).bind fun z =>
      let a : Int := a
      let b : Int := b
      if zcOk P e z.hard.width && zeroOk P e z.hard then
        grd (iLe 0 a) (grd (iLe a b) (grd (iLe (imul b (P.bytesOf e : Int)) 140737488355328) (k (.slw n [] 0) (H.put n (some ⟨.vec false z.hard, (rep (α := z.hard.den) a z.hard.zero), []⟩)))))
      else none
    | _, _, _ => none
  | .fieldAddr s x f => match P.underlying s with
    | some (.struct fs) => match fs[f]? with
      | some fd => match ρ x with
        | .ptr id p q off ver => if !szOk P fd.type 0 && (P.info? fd.type).isSome then k (.ptr id p (q ++ fieldPath fs.size f) (off + fd.offset) ver) H else none
        | .vptr t x => match t.field (fieldPath fs.size f) with
          | some (off, u) => if off == fd.offset && szOk P fd.type (u.width) && u.width != 0 then (t.get x (fieldPath fs.size f)).bind fun v => k (.vptr v.t v.x) H else none
          | none => none
        | _ => none
      | none => none
    | _ => none
  | .field s x f => match P.underlying s with
    | some (.struct fs) => match fs[f]? with
      | some fd => ((ρ x).projAt (fieldPath fs.size f)).bind fun (off, v) => match v.width, v.agg with
        | some m, some g => if off == fd.offset && szOk P fd.type m && isAggT P fd.type == some g then k v H else none
        | _, _ => none
      | none => none
    | _ => none
  | .indexAddr t x i => match P.underlying t, ρ i with
    | some (.slice e), .dat (.int _) j =>
      let j : Int := j
      match ρ x with
      | .slw id p ver => (H.at true id p ver).bind fun (_, v) => match v with
        | ⟨.vec _ u, l⟩ => if szOk P e (u.width) then grd (iLe 0 j) (grd (iLt j (ln (α := u.den) l)) (k (.ptr id (p ++ [.at j]) [] 0 ver) H)) else none
        | _ => none
      | .sub id p ver off len => (H.at true id p ver).bind fun (_, v) => match v with
        | ⟨.vec _ u, _⟩ => if szOk P e (u.width) then grd (iLe 0 j) (grd (iLt j len) (k (.ptr id (p ++ [.at (iadd off j)]) [] 0 ver) H)) else none
        | _ => none
      | .dat (.list u) l => if szOk P e (u.width) then grd (iLe 0 j) (grd (iLt j (ln (α := u.den) l)) (k (.vptr u (rd (α := u.den) l j)) H)) else none
      | _ => none
    | some (.array m e), .dat (.int _) j =>
      let j : Int := j
      match ρ x with
      | .ptr id p q off ver => (H.place (.ptr id p q off ver)).bind fun pl => match pl.v.t with
        | .arr m' u => if m == m' && szOk P e (u.width) && u.width != 0 then grd (iLe 0 j) (grd (iLt j (m : Int)) (k (.ptr id (pl.p ++ [.at j]) [] 0 pl.o.ev.length) H)) else none
        | _ => none
      | .vptr (.arr m' u) l => if m == m' && szOk P e (u.width) && u.width != 0 then grd (iLe 0 j) (grd (iLt j (m : Int)) (k (.vptr u (rd (α := u.den) l j)) H)) else none
      | _ => none
    | _, _ => none
  | .index t x i => match P.underlying t, ρ x, ρ i with
    | some .string, .dat .str s, .dat (.int _) j =>
      let j : Int := j
      let s : List Int := s
      grd (iLe 0 j) (grd (iLt j (ln s)) (k (.dat (.int .u8) (rd s j)) H))
    | some (.array m e), .dat (.arr m' u) l, .dat (.int _) j =>
      let j : Int := j
      if m == m' && szOk P e (u.width) && isAggT P e == some u.isAgg then grd (iLe 0 j) (grd (iLt j (m : Int)) (k (.dat u (rd (α := u.den) l j)) H)) else none
    | _, _, _ => none
  | .extract t i => ((ρ t).ext i).bind fun v => k v H
  | .call c => evCall P C c st n k
  | _ => none


end Go.Ev

namespace Go.Ev
/-! ### Regions -/
noncomputable def userOf : Op → Option Call
  | .call c => match c.callee with
    | .value _ => some c
    | _ => none
  | _ => none

/-- An operation: what it gives, the objects behind it, and from where on names are free. -/
noncomputable def evO {R : Type} (P : Program) (C : Handler) (o : Oper) (st : St) (n : Nat) (k : AV → Heap → Nat → Option R) : Option R :=
  match userOf o.op with
  | some c => evUser P C c st n k
  | none => evOp P C o.op o.type st n fun v H => k v H (n + 8)

noncomputable def evG {R : Type} (P : Program) (C : Handler) (ops : Array Oper) (o : Oper) (st : St) (n : Nat) (k : St → Nat → Option R) : Option R :=
  let go (st : St) : Option R := evO P C o st n fun v H m => k (({ st with heap := H } : St).dst o.dst v) m
  match o.guard with
  | none => go st
  | some (j, want) => match (ops[j]?).bind (·.dst) with
    | none => none
    | some t => match st.tmps t with
      | .lb b => if b = want then go st else k (st.dst o.dst .any) n
      | .dat .bool b =>
        let yes := st.put t (.lb true)
        let no := st.put t (.lb false)
        br b (if want then go yes else k (yes.dst o.dst .any) n) (if want then k (no.dst o.dst .any) n else go no)
      | _ => none

noncomputable def evOps {R : Type} (P : Program) (C : Handler) (ops : Array Oper) : List Oper → St → Nat → (St → Nat → Option R) → Option R
  | [], st, n, k => k st n
  | o :: r, st, n, k => evG P C ops o st n fun st' n' => evOps P C ops r st' n' k

/-! ### Regions whose order is drawn -/
noncomputable def uniq : List Nat → List Nat
  | [] => []
  | a :: r => a :: (uniq r).filter (· != a)

noncomputable def Heap.refsAt (H : Heap) (id : Nat) : List Nat := match H id with
  | some o => o.t.refs
  | none => []
/-- All names that names reach. -/
noncomputable def reach (H : Heap) : Nat → List Nat → List Nat
  | 0, l => l
  | n + 1, l =>
    let l' := uniq (l ++ l.flatMap H.refsAt)
    if l'.length == l.length then l else reach H n l'

/-- Who only reads. -/
noncomputable def opRd : Op → Bool
  | .move _ | .pick .. | .load .. | .nilCheck _ | .binOp .. | .unOp .. | .makeFunc .. | .fieldAddr .. | .field .. | .indexAddr .. | .index .. | .extract .. => true
  | .call c => match c.callee with
    | .builtin .len => true
    | .builtin .min => true
    | .builtin .max => true
    | _ => false
  | _ => false

noncomputable def guardTmp (ops : Array Oper) (o : Oper) : List Nat := match o.guard with
  | none => []
  | some (j, _) => match (ops[j]?).bind (·.dst) with
    | some t => [t]
    | none => []
noncomputable def opTmps (o : Oper) : List Nat := o.op.operands.toList.filterMap fun x => match x with | .tmp t => some t | _ => none
noncomputable def opIds (st : St) (o : Oper) : List Nat := o.op.operands.toList.flatMap fun x => (st.eval x).ids
noncomputable def St.only (st : St) (ts ids : List Nat) : St := ⟨fun t => if ts.contains t then st.tmps t else .any, fun id => if ids.contains id then st.heap id else none⟩
noncomputable def inSp (base id : Nat) : Bool := Nat.ble base id && Nat.blt id (base + 8)
noncomputable def isGuard (ops : Array Oper) (i : Nat) : Bool := ops.toList.any fun o => match o.guard with
  | some (j, _) => j == i
  | none => false
noncomputable def eager {R : Type} (b : Bool) (v : AV) (k : AV → Option R) : Option R := match b, v with
  | true, .dat .bool x => br x (k (.lb true)) (k (.lb false))
  | _, v => k v
noncomputable def mergeH (H H' : Heap) (vis : List Nat) (base : Nat) : Heap := fun id => if vis.contains id || inSp base id then H' id else H id
noncomputable def visOf (st : St) (o : Oper) : List Nat := reach st.heap 8 (uniq (opIds st o))
/-- Is all that is seen from before? -/
noncomputable def visOk (H : Heap) (vis : List Nat) (base : Nat) : Bool := vis.all fun id => Nat.blt id base && match H id with
  | some o => o.t.refs.all fun j => Nat.blt j base
  | none => true
noncomputable def stays (H H' : Heap) (id : Nat) : Bool := match H id, H' id with
  | some o, some o' => o'.ok true [] o.ev.length
  | _, _ => false
/-- Do the objects behind an operation hang together with no others? -/
noncomputable def newOk (H H' : Heap) (vis : List Nat) (base : Nat) : Bool :=
  let ok (o : Obj) : Bool := o.t.refs.all fun j => inSp base j || (vis.contains j && stays H H' j)
  (vis.all fun id => match H' id with
    | some o => stays H H' id && ok o
    | none => true) && [0, 1, 2, 3, 4, 5, 6, 7].all fun i => match H' (base + i) with
    | some o => ok o
    | none => true

/-- Operations that do not look at memory. -/
noncomputable def opNh (P : Program) : Op → Bool
  | .move _ | .pick .. | .nilCheck _ | .unOp .. | .extract .. | .fieldAddr .. => true
  | .binOp op t _ _ _ => !slCmp P t op
  | _ => false
noncomputable def nhOp {R : Type} (P : Program) (op : Op) (ρ : Operand → AV) (k : AV → Option R) : Option R :=
  match op with
  | .move x => k (ρ x)
  | .pick c a b => match ρ c with
    | .lb t => if t = true then k (ρ a) else k (ρ b)
    | .dat .bool t => br t (k (ρ a)) (k (ρ b))
    | _ => none
  | .nilCheck x => match ρ x with
    | .ptr id p q off ver => k (.ptr id p q off ver)
    | .vptr t y => k (.vptr t y)
    | .clo f c => k (.clo f c)
    | _ => none
  | .binOp op t x y _ => evBin P op t (ρ x) (ρ y) k
  | .unOp op _ x => evUn op (ρ x) k
  | .fieldAddr s x f => match P.underlying s with
    | some (.struct fs) => match fs[f]? with
      | some fd => match ρ x with
        | .ptr id p q off ver => if !szOk P fd.type 0 && (P.info? fd.type).isSome then k (.ptr id p (q ++ fieldPath fs.size f) (off + fd.offset) ver) else none
        | .vptr t x => match t.field (fieldPath fs.size f) with
          | some (off, u) => if off == fd.offset && szOk P fd.type (u.width) && u.width != 0 then (t.get x (fieldPath fs.size f)).bind fun v => k (.vptr v.t v.x) else none
          | none => none
        | _ => none
      | none => none
    | _ => none
  | .extract t i => ((ρ t).ext i).bind fun v => k v
  | _ => none

/-- One operation of such a region: it sees what it names, and changes no more. -/
noncomputable def evX {R : Type} (P : Program) (C : Handler) (ops : Array Oper) (n : Nat) (o : Oper) (i : Nat) (st : St) (k : List Nat → St → Option R) : Option R :=
  let go : Option R :=
    if opNh P o.op then nhOp P o.op st.eval fun v => if v.ids.all (fun id => (opIds st o).contains id) then eager (isGuard ops i) v fun v => k [] (st.dst o.dst v) else none else
    let vis := visOf st o
    if visOk st.heap vis (n + 64 * i) && opNt P o.op then
    evO P C o (st.only (opTmps o) vis) (n + 64 * i) fun v H m =>
      if Nat.ble m (n + 64 * i + 64) && v.ids.all (fun id => vis.contains id || inSp (n + 64 * i) id) && (opRd o.op || newOk (st.only [] vis).heap H vis (n + 64 * i)) then
        eager (isGuard ops i) v fun v => k vis (({ st with heap := if opRd o.op then st.heap else mergeH st.heap H vis (n + 64 * i) } : St).dst o.dst v)
      else none
    else none
  match o.guard with
  | none => go
  | some (j, want) => match (ops[j]?).bind (·.dst) with
    | none => none
    | some t => match st.tmps t with
      | .lb b => if b = want then go else k [] (st.dst o.dst .any)
      | _ => none

noncomputable def edges (o : Oper) : List Nat := (o.after.toList.filter fun e => Region.binds .any e).map (·.on)
noncomputable def closes : List Oper → List Nat → List Nat
  | [], acc => acc
  | o :: r, acc => closes r (acc ++ [(edges o).foldl (fun m j => m ||| (1 <<< j) ||| acc.getD j 0) 0])

structure Seen where
  o : Oper
  i : Nat
  vis : List Nat

noncomputable def apartL (n : Nat) (a b : Seen) : Bool := opRd a.o.op || b.vis.all fun id => !(a.vis.contains id || inSp (n + 64 * a.i) id)
noncomputable def slotsOk (ops : Array Oper) (a b : Oper) : Bool := match a.dst with
  | none => true
  | some d => !(opTmps b).contains d && !(guardTmp ops b).contains d && b.dst != some d
/-- May two operations be done in either order? -/
noncomputable def commute (ops : Array Oper) (n : Nat) (a b : Seen) : Bool := slotsOk ops a.o b.o && slotsOk ops b.o a.o && apartL n a b && apartL n b a

noncomputable def evDraws {R : Type} (P : Program) (C : Handler) (ops : Array Oper) (cls : List Nat) (n : Nat) : List Oper → Nat → List Seen → St → (St → Option R) → Option R
  | [], _, _, st, k => k st
  | o :: r, i, seen, st, k => evX P C ops n o i st fun vis st' =>
      if seen.all (fun s => (cls.getD i 0).testBit s.i || commute ops n s ⟨o, i, vis⟩) then evDraws P C ops cls n r (i + 1) (⟨o, i, vis⟩ :: seen) st' k else none

noncomputable def evDraw {R : Type} (P : Program) (C : Handler) (ops : Array Oper) (st : St) (n : Nat) (k : St → Nat → Option R) : Option R :=
  if ops.toList.zipIdx.all fun a => (edges a.1).all fun j => Nat.blt j a.2 then evDraws P C ops (closes ops.toList []) n ops.toList 0 [] st fun st' => k st' (n + 64 * ops.size) else none

/-! ### Loops -/
section
variable {S R : Type}
noncomputable def iter (f : S → Option (S ⊕ R)) : Nat → S → Option R
  | 0, _ => none
  | n + 1, s => match f s with
    | none => none
    | some (.inl s') => iter f n s'
    | some (.inr r) => some r
open Classical in
noncomputable def loopR (f : S → Option (S ⊕ R)) (s : S) : Option R :=
  if h : ∃ n r, iter f n s = some r then some (Classical.choose (Classical.choose_spec h)) else none
end

/-- What a function tells of its loops: by the number of the block round each, the slots that live at its head and behind it, and types that are to be other than the usual ones. -/
structure Ann where
  live : List Nat
  tys : List (Nat × Ty) := []

inductive Ex where
  | normal | ret
  | exit (id : Nat)

noncomputable def AV.cur (H : Heap) : AV → AV
  | .ptr id p q off ver => match H.at false id p ver with
    | some _ => if Path.lit p && Path.lit q then .ptr id p q off 0 else .any
    | none => .any
  | .slw id p ver => match H.at true id p ver with
    | some _ => if Path.lit p then .slw id p 0 else .any
    | none => .any
  | .mp id p ver => match H.at true id p ver with
    | some _ => if Path.lit p then .mp id p 0 else .any
    | none => .any
  | .sub id p ver off len => match H.at true id p ver with
    | some _ => if Path.lit p then .sub id p 0 off len else .any
    | none => .any
  | .one v => .one (v.cur H)
  | .pair a b => .pair (a.cur H) (b.cur H)
  | .tup a b => .tup (a.cur H) (b.cur H)
  | .clo f c => .clo f (c.cur H)
  | .vptr _ _ => .any
  | .lb b => .dat .bool b
  | v => v

structure Shape where
  vals : List (Nat × AV)
  objs : List (Nat × Ty)

noncomputable def valsLeaves (vs : List (Nat × AV)) : List Ty := vs.flatMap fun v => v.2.leaves
noncomputable def Shape.leaves (s : Shape) : List Ty := valsLeaves s.vals ++ s.objs.map (·.2)

noncomputable def AV.named (id : Nat) : AV → Bool
  | .ptr j _ _ _ _ | .slw j _ _ => j == id
  | _ => false
noncomputable def shapeOf (st : St) (ann : Ann) : Shape :=
  let vals := ann.live.map fun t => (t, (st.tmps t).cur st.heap)
  let ids := reach st.heap 8 (uniq (vals.flatMap fun v => v.2.ids))
  { vals, objs := ids.filterMap fun id => (st.heap id).map fun o => (id, match ann.tys.find? fun a => (st.tmps a.1).named id with | some a => a.2 | none => o.t) }

noncomputable def matVals (st : St) : (vs : List (Nat × AV)) → Heap → Asg → Option (HL (valsLeaves vs) × Heap × Asg)
  | [], H, g => some ((), H, g)
  | (t, v) :: r, H, g => (v.mat (st.tmps t) H g).bind fun (x, H1, g1) => (matVals st r H1 g1).map fun (y, H2, g2) => (HL.app _ _ x y, H2, g2)
noncomputable def fitVals (st : St) (H : Heap) (vs : List (Nat × AV)) : Bool := vs.all fun v => v.2.fit H (st.tmps v.1)

/-- A state, told by a shape: its data, the objects then, and which name is which place. -/
noncomputable def Shape.tell (s : Shape) (g0 : Asg) (st : St) : Option (HL s.leaves × Heap × Asg) :=
  (matVals st s.vals st.heap g0).bind fun (x, H, g) => if fitVals st H s.vals then (objMat H s.objs g).map fun (y, g2) => (HL.app _ _ x y, H, g2) else none

noncomputable def isBox : Ty → Bool
  | .box _ => true
  | _ => false
noncomputable def Asg.is (g : Asg) (j id : Nat) : Bool := match g.find j with
  | some (id', []) => id' == id
  | _ => false
noncomputable def Shape.has (s : Shape) (j : Nat) : Bool := s.objs.any fun a => a.1 == j
noncomputable def Heap.keeps (H : Heap) (j : Nat) : Bool := match H j with
  | some o => o.ok true [] 0
  | none => false

noncomputable def Heap.boxed (H : Heap) (j : Nat) : Bool := match H j with
  | some o => isBox o.t
  | none => false

/-- At the end of a round. -/
noncomputable def Shape.take (s : Shape) (st : St) : Option (Tys s.leaves) :=
  (s.tell [] st).bind fun (x, H, g) =>
    if s.objs.all (fun a => !isBox a.2 || (g.is a.1 a.1 && H.keeps a.1)) && g.all (fun a => s.has a.1 || (a.2.1 == a.1 && a.2.2.isEmpty)) then some (HL.pk _ x) else none

/-- Ahead of a loop. -/
noncomputable def Shape.enter (s : Shape) (st : St) (n : Nat) : Option (Tys s.leaves × Heap) :=
  (s.tell [] st).bind fun (x, H, g) =>
    if s.objs.all (fun a => g.is a.1 a.1 && decide (a.1 < n) && a.2.refs.all fun j => decide (j < n)) && g.all (fun a => a.2.1 == a.1 && a.2.2.isEmpty) && s.vals.all (fun v => v.2.ids.all fun j => decide (j < n)) then some (HL.pk _ x, H) else none

noncomputable def fillVals : (vs : List (Nat × AV)) → HL (valsLeaves vs) → (Nat → AV)
  | [], _ => fun _ => .any
  | (t, v) :: r, x => fun n => if n = t then v.fill (HL.fst _ _ x) else fillVals r (HL.snd _ _ x) n

noncomputable def fillObjs : (os : List (Nat × Ty)) → HL (os.map (·.2)) → Heap
  | [], _ => fun _ => none
  | (id, t) :: r, x => fun n => if n = id then some ⟨t, x.1, []⟩ else fillObjs r x.2 n

noncomputable def Shape.give (s : Shape) (x : Tys s.leaves) : St :=
  let y := HL.un _ x
  { tmps := fillVals s.vals (HL.fst _ _ y), heap := fillObjs s.objs (HL.snd _ _ y) }

/-- Names that are known from later on; of what stood aside nothing is. -/
noncomputable def AV.later (f : Nat → Option Nat) : AV → AV
  | .ptr id p q off ver => match f id with | some m => .ptr id p q off (ver + m) | none => .any
  | .slw id p ver => match f id with | some m => .slw id p (ver + m) | none => .any
  | .sub id p ver off len => match f id with | some m => .sub id p (ver + m) off len | none => .any
  | .mp id p ver => match f id with | some m => .mp id p (ver + m) | none => .any
  | .one v => .one (v.later f)
  | .pair a b => .pair (a.later f) (b.later f)
  | .tup a b => .tup (a.later f) (b.later f)
  | .clo g c => .clo g (c.later f)
  | v => v

/-- What happened to an object of a shape, for whoever knew it from before: all that was known of what is below it is gone. -/
noncomputable def Ty.away : Ty → Bool × Path
  | .box _ => (true, [.d])
  | _ => (true, [])

/-- The objects, and the slots, that a shape tells. -/
noncomputable def Shape.heapOf (s : Shape) (x : HL s.leaves) : Heap := fillObjs s.objs (HL.snd (valsLeaves s.vals) _ x)
noncomputable def Shape.tmpsOf (s : Shape) (x : HL s.leaves) : Nat → AV := fillVals s.vals (HL.fst (valsLeaves s.vals) _ x)

/-- The state behind a loop: the objects that stood aside are there again. -/
noncomputable def Shape.back (s : Shape) (H0 : Heap) (st : St) : St :=
  { tmps := fun t => (st.tmps t).later fun id => match H0 id with
      | some o => if s.has id then some (o.ev.length + 1) else none
      | none => some 0
    heap := fun id => match H0 id with
      | some o0 => if s.has id then (st.heap id).map fun o => { o with ev := o0.ev ++ o0.t.away :: o.ev }
        else if o0.t.refs.all (fun j => !s.has j || (st.heap.keeps j && H0.boxed j)) then some o0 else none
      | none => st.heap id }

noncomputable def exits : Code → List Nat
  | .seq x y | .cond _ x y => exits x ++ exits y
  | .block id x => (exits x).filter (· != id)
  | .loop x | .scope x => exits x
  | .exit id => [id]
  | _ => []
noncomputable def rets : Code → Bool
  | .ret => true
  | .seq x y | .cond _ x y => rets x || rets y
  | .block _ x | .loop x | .scope x => rets x
  | _ => false

noncomputable def evLoop (body : (R' : Type) → St → Nat → (Ex → St → Nat → Option R') → Option R') (esc : Bool) (id : Nat) (s : Shape) (R : Type) (st : St) (n : Nat) (k : Ex → St → Nat → Option R) : Option R :=
  (s.enter st n).bind fun (x0, H0) =>
  if esc then
    bnd (loopR (S := Tys s.leaves) (R := Tys s.leaves ⊕ R) (fun x => body (Tys s.leaves ⊕ (Tys s.leaves ⊕ R)) (s.give x) n fun e st' n' => match e with
      | .normal => (s.take st').map .inl
      | .ret => (k .ret (s.back H0 st') n').map fun r => .inr (.inr r)
      | .exit j => if j = id then (s.take st').map fun y => .inr (.inl y) else (k (.exit j) (s.back H0 st') n').map fun r => .inr (.inr r)) x0) fun o => match o with
      | .inl x => k (.exit id) (s.back H0 (s.give x)) n
      | .inr r => some r
  else
    bnd (loopR (S := Tys s.leaves) (R := Tys s.leaves) (fun x => body (Tys s.leaves ⊕ Tys s.leaves) (s.give x) n fun e st' _ => match e with
      | .normal => (s.take st').map .inl
      | .exit j => if j = id then (s.take st').map .inr else none
      | .ret => none) x0) fun x => k (.exit id) (s.back H0 (s.give x)) n

noncomputable def ev (P : Program) (C0 C : Handler) (A : Nat → Option Ann) : Code → Option Nat → (R : Type) → St → Nat → (Ex → St → Nat → Option R) → Option R
  | .skip, _, _, st, n, k => k .normal st n
  | .region _ ops d, _, _, st, n, k => if d then evDraw P C0 ops st n fun st' n' => k .normal st' n' else evOps P C ops ops.toList st n fun st' n' => k .normal st' n'
  | .seq a b, _, R, st, n, k => ev P C0 C A a none R st n fun e st' n' => match e with
    | .normal => ev P C0 C A b none R st' n' k
    | .ret => k .ret st' n'
    | .exit j => k (.exit j) st' n'
  | .cond c a b, _, R, st, n, k => match st.eval c with
    | .lb t => if t = true then ev P C0 C A a none R st n k else ev P C0 C A b none R st n k
    | .dat .bool t => match c with
      | .tmp i => br t (ev P C0 C A a none R (st.put i (.lb true)) n k) (ev P C0 C A b none R (st.put i (.lb false)) n k)
      | _ => br t (ev P C0 C A a none R st n k) (ev P C0 C A b none R st n k)
    | _ => none
  | .loop body, b, R, st, n, k => match b with
    | none => none
    | some id => match A id with
      | none => none
      | some ann => evLoop (fun R' => ev P C0 C A body none R') ((exits body).any (· != id) || rets body) id (shapeOf st ann) R st n k
  | .block id body, _, R, st, n, k => ev P C0 C A body (some id) R st n fun e st' n' => match e with
    | .exit j => if j = id then k .normal st' n' else k (.exit j) st' n'
    | .normal => k .normal st' n'
    | .ret => k .ret st' n'
  | .exit id, _, _, st, n, k => k (.exit id) st n
  | .ret, _, _, st, n, k => k .ret st n
  | .rangeFunc .., _, _, _, _, _ | .scope _, _, _, _, _, _ | .label _, _, _, _, _, _ | .goto _, _, _, _, _, _ | .refuse _, _, _, _, _, _ => none

/-- Do all answers lie in places that there are? -/
noncomputable def dstOk (m : Nat) : Code → Bool
  | .region _ ops _ => ops.toList.all fun o => match o.dst with | some t => Nat.blt t m | none => true
  | .seq a b | .cond _ a b => dstOk m a && dstOk m b
  | .block _ a | .loop a => dstOk m a
  | _ => true

/-! ### Functions -/
structure Sig where
  args : List AV
  objs : List Ty
  res : AV
  outs : List Ty

noncomputable def nums {α : Type} (b : Nat) (l : List α) : List (Nat × α) := l.zipIdx.map fun (x, i) => (b + i, x)
noncomputable def Sig.inS (s : Sig) : Shape := ⟨nums 0 s.args, nums 0 s.objs⟩
noncomputable def Sig.ins (s : Sig) : List Ty := s.inS.leaves
noncomputable def Sig.outS (s : Sig) : Shape := ⟨[(0, s.res)], nums 0 s.outs⟩
noncomputable def Sig.out (s : Sig) : List Ty := s.outS.leaves

structure Con where
  sig : Sig
  fn : Tys sig.ins → Option (Tys sig.out)

/-- A function's answer. -/
noncomputable def resAV (st : St) (P : Program) : List ResultVar → Option (List AV)
  | [] => some []
  | .tmp t :: r => (resAV st P r).map (st.tmps t :: ·)
  | .cell a T :: r => (st.heap.place (st.tmps a)).bind fun pl => if cellsOk P T pl.v.t then (resAV st P r).map (AV.get pl.id pl.o.ev.length pl.v.t pl.v.x pl.p :: ·) else none

/-- What a function gives back: its answer, and the objects. -/
noncomputable def outTake (s : Sig) (st : St) (v : AV) : Option (Tys s.out) :=
  (s.outS.tell ((nums 0 s.objs).map fun (j, _) => (j, j, [])) ⟨fun _ => v, st.heap⟩).bind fun (x, H, _) =>
    if (nums 0 s.objs).all fun a => H.keeps a.1 then some (HL.pk _ x) else none

noncomputable def runF (P : Program) (C0 C : Handler) (A : Nat → Option Ann) (fn : Func) (s : Sig) (x : Tys s.ins) : Option (Tys s.out) :=
  fn.body.bind fun body => if !(dstOk fn.ntmps body && Nat.ble s.args.length fn.ntmps) then none else
    ev P C0 C A body none (Tys s.out) (s.inS.give x) 64 fun e st _ => match e with
      | .exit _ => none
      | _ => (resAV st P fn.results.toList).bind fun l => outTake s st (tupAV l)

noncomputable def renId (g : Asg) (base : Nat) (j : Nat) : Nat × Path := match g.find j with | some x => x | none => (base + j, [])

noncomputable def Heap.now (H : Heap) (id : Nat) : Nat := match H id with | some o => o.ev.length | none => 0

noncomputable def AV.renA (g : Asg) (base : Nat) (H : Heap) : AV → AV
  | .ptr j p q off _ => if Path.same p [.d] then .ptr (renId g base j).1 ((renId g base j).2 ++ [.d]) q off (H.now (renId g base j).1) else .any
  | .slw j p _ => if p.isEmpty then .slw (renId g base j).1 (renId g base j).2 (H.now (renId g base j).1) else .any
  | .mp j p _ => if p.isEmpty then .mp (renId g base j).1 (renId g base j).2 (H.now (renId g base j).1) else .any
  | .sub _ _ _ _ _ => .any
  | .one v => .one (v.renA g base H)
  | .pair a b => .pair (a.renA g base H) (b.renA g base H)
  | .tup a b => .tup (a.renA g base H) (b.renA g base H)
  | .clo f c => .clo f (c.renA g base H)
  | v => v

noncomputable def awayAt (q : Path) : Ty → Bool × Path
  | .box _ => (true, q ++ [.d])
  | _ => (false, q)

/-- The objects behind a call. -/
noncomputable def putOuts (g : Asg) (base : Nat) : (os : List (Nat × Ty)) → HL (os.map (·.2)) → Heap → Option Heap
  | [], _, H => some H
  | (j, t) :: r, x, H => if !(t.refs.all fun i => (renId g base i).2.isEmpty && Nat.blt i 64) then none else
    let v := TV.ren (fun i => (renId g base i).1) ⟨t, x.1⟩
    match g.find j with
    | some (id, q) => (H id).bind fun o => (o.set q v [awayAt q t]).bind fun o' => putOuts g base r x.2 (H.put id (some o'))
    | none => putOuts g base r x.2 (H.put (base + j) (some ⟨v.t, v.x, []⟩))

noncomputable def callCon {R : Type} (c : Con) (args : List AV) (H : Heap) (n : Nat) (k : AV → Heap → Nat → Option R) : Option R :=
  if args.length == c.sig.args.length then
    (c.sig.inS.tell [] ⟨fun i => args.getD i .any, H⟩).bind fun (x, H1, g) => if g.all fun a => decide (a.1 < c.sig.objs.length) then
      bnd (c.fn (HL.pk _ x)) fun z =>
        (putOuts g n (nums 0 c.sig.outs) (HL.snd (valsLeaves c.sig.outS.vals) _ (HL.un _ z)) H1).bind fun H2 =>
          k ((c.sig.outS.tmpsOf (HL.un _ z) 0).renA g n H2) H2 (n + 64)
      else none
  else none

/-- Calls by what is known of a function, and, where nothing is, by its text. -/
noncomputable def handler (P : Program) (G : FuncId → List AV → Option Con) (As : FuncId → Nat → Option Ann) : Nat → Handler
  | 0 => fun R f args H n k => match G f args with
    | some c => callCon c args H n k
    | none => (none : Option R)
  | d + 1 => fun R f args H n k => match G f args with
    | some c => callCon c args H n k
    | none => match P.funcs[f]? with
      | none => none
      | some fn => fn.body.bind fun body =>
        if args.length == fn.params.size + fn.nfree && dstOk fn.ntmps body && Nat.ble args.length fn.ntmps then
          ev P (handler P G As 0) (handler P G As d) (As f) body none R ⟨fun i => args.getD i .any, H⟩ n fun e st m => match e with
            | .exit _ => none
            | _ => (resAV st P fn.results.toList).bind fun l => k (tupAV l) st.heap m
        else none

end Go.Ev

