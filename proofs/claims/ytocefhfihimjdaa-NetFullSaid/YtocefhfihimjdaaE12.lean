/- A way to show what code computes: part 12: no condition. -/
import Derived.Test.YtocefhfihimjdaaE11
set_option linter.unusedVariables false
namespace Go.Ev

/-- Something that gives one thing, and goes on with it. -/
def Nt {X : Type} (F : (R : Type) → (X → Option R) → Option R) : Prop := ∀ (R : Type) (k : X → Option R), F R k = (F X some).bind k

section
variable {X A : Type} {F G : (R : Type) → (X → Option R) → Option R}
theorem Nt.pure (x : X) : Nt (X := X) fun _ k => k x := fun _ _ => rfl
theorem Nt.no : Nt (X := X) fun _ _ => none := fun _ _ => rfl
theorem Nt.bind {o : Option A} {f : A → (R : Type) → (X → Option R) → Option R} (h : ∀ a, Nt (f a)) : Nt (X := X) fun R k => o.bind fun a => f a R k := by
  intro R k
  cases o with
  | none => rfl
  | some a => exact h a R k
theorem Nt.ite {p : Prop} [Decidable p] (h : Nt F) (g : Nt G) : Nt (X := X) fun R k => if p then F R k else G R k := by
  intro R k
  by_cases hp : p
  · simp only [if_pos hp]; exact h R k
  · simp only [if_neg hp]; exact g R k
theorem Nt.dite {p : Prop} [Decidable p] {F : p → (R : Type) → (X → Option R) → Option R} (h : ∀ q, Nt (F q)) : Nt (X := X) fun R k => if q : p then F q R k else none := by
  intro R k
  by_cases hp : p
  · simp only [dif_pos hp]; exact h hp R k
  · simp only [dif_neg hp]; rfl
theorem Nt.grd {p : Prop} [Decidable p] (h : Nt F) : Nt (X := X) fun R k => grd p (F R k) := by
  intro R k
  simp only [grd_eq]
  by_cases hp : p
  · simp only [if_pos hp]; exact h R k
  · simp only [if_neg hp]; rfl
theorem Nt.both (h : Nt F) : Nt (X := X) fun R k => both (F R k) (F R k) := by
  intro R k
  simp only [both_self]
  exact h R k
theorem Nt.br {b : Bool} (h : Nt F) (g : Nt G) : Nt (X := X) fun R k => br b (F R k) (G R k) := by
  intro R k
  simp only [br_eq]
  cases b with
  | true => exact h R k
  | false => exact g R k
theorem Nt.map {Y : Type} (h : Nt F) (f : X → Y) : Nt (X := Y) fun R k => F R fun x => k (f x) := by
  intro R k
  simp only
  rw [h R, h Y]
  cases F X some with
  | none => rfl
  | some x => rfl
theorem Nt.get (h : Nt F) {R : Type} {k : X → Option R} {r : R} (hk : F R k = some r) : ∃ x, F X some = some x ∧ k x = some r := by
  rw [h R k] at hk
  exact Option.bind_eq_some_iff.1 hk
end

theorem evBin_nt (P : Program) (op : BinOp) (T : TypeId) (x y : AV) : Nt (X := AV) fun R k => evBin P op T x y k := by
  unfold evBin
  generalize x.unlb = x'
  generalize y.unlb = y'
  cases x' <;> cases y' <;> dsimp only <;> first | exact Nt.no | skip
  case dat.dat t a u b =>
    cases t <;> cases u <;> dsimp only <;>
      first
      | (refine Nt.dite fun h => Nt.ite ?_ Nt.no; cases op <;> dsimp only <;> first | exact Nt.pure _ | exact Nt.no; done)
      | skip
    case int.int i j =>
      cases op <;> dsimp only <;>
        first
        | exact Nt.grd (Nt.pure _)
        | (refine Nt.ite ?_ Nt.no; first | exact Nt.pure _ | exact Nt.grd (Nt.pure _) | exact Nt.no)
    case str.str => cases op <;> dsimp only <;> first | exact Nt.pure _ | exact Nt.grd (Nt.pure _) | exact Nt.no
  case nil.nil => refine Nt.ite ?_ Nt.no; cases op <;> dsimp only <;> first | exact Nt.pure _ | exact Nt.no
  case ptr.nil => refine Nt.ite ?_ Nt.no; cases op <;> dsimp only <;> first | exact Nt.pure _ | exact Nt.no
  case nil.ptr => refine Nt.ite ?_ Nt.no; cases op <;> dsimp only <;> first | exact Nt.pure _ | exact Nt.no
  case vptr.nil => refine Nt.ite ?_ Nt.no; cases op <;> dsimp only <;> first | exact Nt.pure _ | exact Nt.no
  case nil.vptr => refine Nt.ite ?_ Nt.no; cases op <;> dsimp only <;> first | exact Nt.pure _ | exact Nt.no
  all_goals
    first
    | (rename_i t _; cases t <;> dsimp only <;> exact Nt.no)
    | (rename_i t _ _; cases t <;> dsimp only <;> exact Nt.no)
    | (rename_i t _ _ _; cases t <;> dsimp only <;> exact Nt.no)
    | (rename_i t _ _ _ _; cases t <;> dsimp only <;> exact Nt.no)
    | (rename_i t _ _ _ _ _; cases t <;> dsimp only <;> exact Nt.no)
    | (rename_i t _ _ _ _ _ _; cases t <;> dsimp only <;> exact Nt.no)

theorem evUn_nt (op : UnOp) (x : AV) : Nt (X := AV) fun R k => evUn op x k := by
  unfold evUn
  cases op <;> cases x <;> (try dsimp only) <;> first | exact Nt.no | exact Nt.pure _ | (rename_i t a; cases t <;> (try dsimp only) <;> first | exact Nt.no | exact Nt.pure _)
end Go.Ev

namespace Go.Ev

abbrev AVH := AV × Heap
section
variable {P : Program} {C : Handler}

theorem evConv_nt (s d : TypeId) (x : AV) (H : Heap) (n : Nat) : Nt (X := AVH) fun R k => evConv P s d x H n fun v H => k (v, H) := by
  unfold evConv
  generalize P.underlying s = a
  generalize P.underlying d = b
  cases a with
  | none => exact Nt.no
  | some a =>
  cases b with
  | none => cases a <;> exact Nt.no
  | some b =>
  cases a <;> cases b <;> (try dsimp only) <;> first | exact Nt.no | skip
  case int.int i j =>
    cases x <;> (try dsimp only) <;> first | exact Nt.no | skip
    rename_i t y
    cases t <;> (try dsimp only) <;> first | exact Nt.no | (refine Nt.ite (Nt.ite (Nt.pure (_, _)) (Nt.pure (_, _))) Nt.no)
  case string.string =>
    cases x <;> (try dsimp only) <;> first | exact Nt.no | skip
    rename_i t y
    cases t <;> (try dsimp only) <;> first | exact Nt.no | exact Nt.pure (_, _)
  case slice.string e =>
    generalize P.underlying e = u
    cases u with
    | none => exact Nt.no
    | some u =>
      cases u <;> (try dsimp only) <;> first | exact Nt.no | skip
      rename_i i
      cases i <;> (try dsimp only) <;> first | exact Nt.no | skip
      cases x <;> (try dsimp only) <;> first | exact Nt.no | exact Nt.pure (_, _) | skip
      all_goals
        generalize Heap.list H _ = l
        cases l with
        | none => exact Nt.no
        | some l =>
          obtain ⟨e, l⟩ := l
          cases e <;> (try dsimp only) <;> first | exact Nt.no | skip
          rename_i i
          cases i <;> (try dsimp only) <;> first | exact Nt.no | exact Nt.pure (_, _)

theorem evAppend_nt (e : TypeId) (H : Heap) (n : Nat) (s x : AV) : Nt (X := AVH) fun R k => evAppend P e H n s x fun v H => k (v, H) := by
  unfold evAppend
  cases s <;> (try dsimp only) <;> first | exact Nt.no | skip
  case slw id p ver =>
    refine Nt.bind fun ⟨v, H1⟩ => Nt.bind fun ⟨o, t⟩ => ?_
    obtain ⟨tt, tx⟩ := t
    cases tt <;> (try dsimp only) <;> first | exact Nt.no | skip
    exact Nt.ite (Nt.bind fun m => Nt.bind fun H2 => Nt.grd (Nt.pure (_, _))) Nt.no
  case nsl =>
    exact Nt.bind fun ⟨v, H1⟩ => Nt.ite (Nt.grd (Nt.pure (_, _))) Nt.no

theorem evCall_nt (c : Call) (st : St) (n : Nat) : Nt (X := AVH) fun R k => evCall P C c st n fun v H => k (v, H) := by
  unfold evCall
  dsimp only
  generalize c.args.toList.map st.eval = args
  cases c.callee with
  | value f => exact Nt.no
  | invoke f m => exact Nt.no
  | builtin b =>
    cases b <;> (try dsimp only) <;> first | exact Nt.no | skip
    case len =>
      generalize c.argTypes[0]? = T
      cases T with
      | none => exact Nt.no
      | some T =>
        match args with
        | [] => exact Nt.no
        | _ :: _ :: _ => exact Nt.no
        | [x] =>
          dsimp only
          generalize P.underlying T = u
          cases u with
          | none => exact Nt.no
          | some u =>
            cases u <;> (try dsimp only) <;> first | exact Nt.no | skip
            case string =>
              cases x <;> (try dsimp only) <;> first | exact Nt.no | skip
              rename_i t y
              cases t <;> (try dsimp only) <;> first | exact Nt.no | exact Nt.pure (_, _)
            case slice => cases x <;> (try dsimp only) <;> first | exact Nt.pure (_, _) | exact Nt.bind fun l => Nt.pure (_, _)
    case append =>
      generalize c.argTypes[0]? = T
      cases T with
      | none => exact Nt.no
      | some T =>
        match args with
        | [] => exact Nt.no
        | [_] => exact Nt.no
        | _ :: _ :: _ :: _ => exact Nt.no
        | [s, x] =>
          dsimp only
          generalize P.underlying T = u
          cases u with
          | none => exact Nt.no
          | some u =>
            cases u <;> (try dsimp only) <;> first | exact Nt.no | skip
            exact Nt.ite (evAppend_nt _ _ _ _ _) Nt.no
    case min =>
      match args with
      | [] => exact Nt.no
      | [x] => cases x <;> (try dsimp only) <;> first | exact Nt.no | (rename_i t y; cases t <;> exact Nt.no)
      | x :: y :: z :: r =>
        cases x <;> (try dsimp only) <;> first | exact Nt.no | skip
        rename_i t a
        cases t <;> (try dsimp only) <;> first | exact Nt.no | skip
        cases y <;> (try dsimp only) <;> first | exact Nt.no | skip
        rename_i t a
        cases t <;> (try dsimp only) <;> exact Nt.no
      | [x, y] =>
        cases x <;> (try dsimp only) <;> first | exact Nt.no | skip
        rename_i t a
        cases t <;> (try dsimp only) <;> first | exact Nt.no | skip
        cases y <;> (try dsimp only) <;> first | exact Nt.no | skip
        rename_i t a
        cases t <;> (try dsimp only) <;> first | exact Nt.no | exact Nt.ite (Nt.pure (_, _)) Nt.no
    case max =>
      match args with
      | [] => exact Nt.no
      | [x] => cases x <;> (try dsimp only) <;> first | exact Nt.no | (rename_i t y; cases t <;> exact Nt.no)
      | x :: y :: z :: r =>
        cases x <;> (try dsimp only) <;> first | exact Nt.no | skip
        rename_i t a
        cases t <;> (try dsimp only) <;> first | exact Nt.no | skip
        cases y <;> (try dsimp only) <;> first | exact Nt.no | skip
        rename_i t a
        cases t <;> (try dsimp only) <;> exact Nt.no
      | [x, y] =>
        cases x <;> (try dsimp only) <;> first | exact Nt.no | skip
        rename_i t a
        cases t <;> (try dsimp only) <;> first | exact Nt.no | skip
        cases y <;> (try dsimp only) <;> first | exact Nt.no | skip
        rename_i t a
        cases t <;> (try dsimp only) <;> first | exact Nt.no | exact Nt.ite (Nt.pure (_, _)) Nt.no
end
end Go.Ev

namespace Go.Ev

section
variable {P : Program} {C : Handler}

theorem evOp_nt (op : Op) (T : TypeId) (st : St) (n : Nat) (hop : opNt P op = true) : Nt (X := AVH) fun R k => evOp P C op T st n fun v H => k (v, H) := by
  unfold evOp
  dsimp only
  cases op <;> (try dsimp only) <;> first | exact Nt.no | exact Nt.pure (_, _) | skip
  case assign x =>
    generalize st.eval x = v
    cases v <;> (try dsimp only) <;> first | exact Nt.pure (_, _) | skip
    generalize P.underlying T = u
    cases u with
    | none => exact Nt.no
    | some u => cases u <;> (try dsimp only) <;> first | exact Nt.no | exact Nt.bind fun t => Nt.ite (Nt.pure (_, _)) Nt.no
  case pick c a b =>
    generalize st.eval c = v
    cases v <;> (try dsimp only) <;> first | exact Nt.no | exact Nt.ite (Nt.pure (_, _)) (Nt.pure (_, _)) | skip
    rename_i t x
    cases t <;> (try dsimp only) <;> first | exact Nt.no | exact Nt.br (Nt.pure (_, _)) (Nt.pure (_, _))
  case alloc e => exact Nt.bind fun t => Nt.ite (Nt.pure (_, _)) Nt.no
  case box e x => exact Nt.bind fun t => Nt.bind fun ⟨v, H1⟩ => Nt.ite (Nt.pure (_, _)) Nt.no
  case build t parts =>
    generalize P.underlying t = u
    generalize P.info? t = i
    cases u with
    | none => exact Nt.no
    | some u =>
      cases u <;> (try dsimp only) <;> first | exact Nt.no | skip
      cases i with
      | none => exact Nt.no
      | some i =>
        dsimp only
        generalize i.zero = z
        cases z with
        | none => exact Nt.no
        | some z => exact Nt.ite (Nt.bind fun l => Nt.pure (_, _)) Nt.no
  case buildSlice t len parts =>
    generalize P.underlying t = u
    cases u with
    | none => exact Nt.no
    | some u =>
      cases u <;> (try dsimp only) <;> first | exact Nt.no | skip
      refine Nt.bind fun z => Nt.ite ?_ Nt.no
      generalize parts.toList.map (fun p => st.eval p.2) = l
      cases l with
      | nil => exact Nt.ite (Nt.pure (_, _)) Nt.no
      | cons x r => exact Nt.bind fun ⟨v, H1⟩ => Nt.ite (Nt.bind fun ⟨l, H2⟩ => Nt.pure (_, _)) Nt.no
  case load t a =>
    generalize st.eval a = v
    cases v <;> (try dsimp only) <;> first | exact Nt.ite (Nt.pure (_, _)) Nt.no | exact Nt.bind fun pl => Nt.ite (Nt.pure (_, _)) Nt.no
  case store t a x => exact Nt.bind fun H' => Nt.pure (_, _)
  case nilCheck x =>
    generalize st.eval x = v
    cases v <;> (try dsimp only) <;> first | exact Nt.no | exact Nt.pure (_, _)
  case binOp op t x y q =>
    simp only [opNt, Bool.not_eq_true'] at hop
    unfold evSl
    rw [hop]
    simp only [Bool.false_eq_true, if_false]
    exact (evBin_nt P op t (st.eval x) (st.eval y)).map fun v => (v, st.heap)
  case unOp op t x => exact (evUn_nt op (st.eval x)).map fun v => (v, st.heap)
  case convert s d x => exact evConv_nt s d _ _ _
  case makeFunc fn first caps =>
    cases fn <;> (try dsimp only) <;> first | exact Nt.no | exact Nt.ite (Nt.pure (_, _)) Nt.no
  case makeSlice t l c =>
    generalize P.underlying t = u
    generalize st.eval l = x
    generalize st.eval c = y
    cases u with
    | none => exact Nt.no
    | some u =>
      cases u <;> (try dsimp only) <;> first | exact Nt.no | skip
      cases x <;> (try dsimp only) <;> first | exact Nt.no | skip
      rename_i ty a
      cases ty <;> (try dsimp only) <;> first | exact Nt.no | skip
      rename_i i
      cases i <;> (try dsimp only) <;> first | exact Nt.no | skip
      cases y <;> (try dsimp only) <;> first | exact Nt.no | skip
      rename_i ty b
      cases ty <;> (try dsimp only) <;> first | exact Nt.no | skip
      rename_i i
      cases i <;> (try dsimp only) <;> first | exact Nt.no | skip
      exact Nt.bind fun z => Nt.ite (Nt.grd (Nt.grd (Nt.grd (Nt.pure (_, _))))) Nt.no
  case fieldAddr s x f =>
    generalize P.underlying s = u
    cases u with
    | none => exact Nt.no
    | some u =>
      cases u <;> (try dsimp only) <;> first | exact Nt.no | skip
      rename_i fs
      generalize fs[f]? = fd
      cases fd with
      | none => exact Nt.no
      | some fd =>
        dsimp only
        generalize st.eval x = v
        cases v <;> (try dsimp only) <;> first | exact Nt.no | exact Nt.ite (Nt.pure (_, _)) Nt.no | skip
        rename_i t y
        generalize t.field (fieldPath fs.size f) = q
        cases q with
        | none => exact Nt.no
        | some q => exact Nt.ite (Nt.bind fun v => Nt.pure (_, _)) Nt.no
  case field s x f =>
    generalize P.underlying s = u
    cases u with
    | none => exact Nt.no
    | some u =>
      cases u <;> (try dsimp only) <;> first | exact Nt.no | skip
      rename_i fs
      generalize fs[f]? = fd
      cases fd with
      | none => exact Nt.no
      | some fd =>
        refine Nt.bind fun ⟨off, v⟩ => ?_
        dsimp only
        generalize v.width = m
        generalize v.agg = g
        cases m with
        | none => exact Nt.no
        | some m =>
          cases g with
          | none => exact Nt.no
          | some g => exact Nt.ite (Nt.pure (_, _)) Nt.no
  case indexAddr t x i =>
    generalize P.underlying t = u
    generalize st.eval i = y
    generalize st.eval x = v
    cases u with
    | none => exact Nt.no
    | some u =>
      cases u <;> (try dsimp only) <;> first | exact Nt.no | skip
      case array m e =>
        cases y <;> (try dsimp only) <;> first | exact Nt.no | skip
        rename_i ty a
        cases ty <;> (try dsimp only) <;> first | exact Nt.no | skip
        cases v <;> (try dsimp only) <;> first | exact Nt.no | skip
        case ptr =>
          refine Nt.bind fun pl => ?_
          obtain ⟨id, p, o, ⟨pt, px⟩⟩ := pl
          cases pt <;> (try dsimp only) <;> first | exact Nt.no | exact Nt.ite (Nt.grd (Nt.grd (Nt.pure (_, _)))) Nt.no
        case vptr t y => cases t <;> (try dsimp only) <;> first | exact Nt.no | exact Nt.ite (Nt.grd (Nt.grd (Nt.pure (_, _)))) Nt.no
      case slice e =>
        cases y <;> (try dsimp only) <;> first | exact Nt.no | skip
        rename_i ty a
        cases ty <;> (try dsimp only) <;> first | exact Nt.no | skip
        cases v <;> (try dsimp only) <;> first | exact Nt.no | skip
        case slw =>
          refine Nt.bind fun ⟨o, ⟨t, l⟩⟩ => ?_
          cases t <;> (try dsimp only) <;> first | exact Nt.no | exact Nt.ite (Nt.grd (Nt.grd (Nt.pure (_, _)))) Nt.no
        case sub =>
          refine Nt.bind fun ⟨o, ⟨t, l⟩⟩ => ?_
          cases t <;> (try dsimp only) <;> first | exact Nt.no | exact Nt.ite (Nt.grd (Nt.grd (Nt.pure (_, _)))) Nt.no
        case dat t l => cases t <;> (try dsimp only) <;> first | exact Nt.no | exact Nt.ite (Nt.grd (Nt.grd (Nt.pure (_, _)))) Nt.no
  case index t x i =>
    generalize P.underlying t = u
    generalize st.eval i = y
    generalize st.eval x = v
    cases u with
    | none => exact Nt.no
    | some u =>
      cases u <;> (try dsimp only) <;> first | exact Nt.no | skip
      case string =>
        cases v <;> (try dsimp only) <;> first | exact Nt.no | skip
        rename_i tv xv
        cases tv <;> (try dsimp only) <;> first | exact Nt.no | skip
        cases y <;> (try dsimp only) <;> first | exact Nt.no | skip
        rename_i ty a
        cases ty <;> (try dsimp only) <;> first | exact Nt.no | exact Nt.grd (Nt.grd (Nt.pure (_, _)))
      case array m e =>
        cases v <;> (try dsimp only) <;> first | exact Nt.no | skip
        rename_i tv xv
        cases tv <;> (try dsimp only) <;> first | exact Nt.no | skip
        cases y <;> (try dsimp only) <;> first | exact Nt.no | skip
        rename_i ty a
        cases ty <;> (try dsimp only) <;> first | exact Nt.no | exact Nt.ite (Nt.grd (Nt.grd (Nt.pure (_, _)))) Nt.no
  case extract t i => exact Nt.bind fun v => Nt.pure (_, _)
  case call c => exact evCall_nt c st n

abbrev Out := AV × Heap × Nat

/-- A handler that does not look at what goes on. -/
def HandlerNt (C : Handler) : Prop := ∀ (f : FuncId) (avs : List AV) (H : Heap) (n : Nat), Nt (X := Out) fun R k => C R f avs H n fun v H m => k (v, H, m)

theorem callCon_nt (c : Con) (args : List AV) (H : Heap) (n : Nat) : Nt (X := Out) fun R k => callCon c args H n fun v H m => k (v, H, m) := by
  unfold callCon
  refine Nt.ite (Nt.bind fun ⟨x, H1, g⟩ => Nt.ite ?_ Nt.no) Nt.no
  simp only [bnd_eq]
  exact Nt.bind fun z => Nt.bind fun H2 => Nt.pure (_, _, _)

theorem handler_nt {G : FuncId → List AV → Option Con} {As : FuncId → Nat → Option Ann} : HandlerNt (handler P G As 0) := by
  intro f avs H n
  simp only [handler]
  generalize G f avs = c
  cases c with
  | none => exact Nt.no
  | some c => exact callCon_nt c avs H n

theorem evO_nt (hC : HandlerNt C) (o : Oper) (st : St) (n : Nat) (hop : opNt P o.op = true) : Nt (X := Out) fun R k => evO P C o st n fun v H m => k (v, H, m) := by
  unfold evO
  generalize userOf o.op = u
  cases u with
  | some c =>
    dsimp only
    unfold evUser
    cases c.callee with
    | builtin b => exact Nt.no
    | invoke x m => exact Nt.no
    | value f =>
      dsimp only
      generalize st.eval f = v
      cases v <;> (try dsimp only) <;> first | exact Nt.no | exact Nt.ite (hC _ _ _ _) Nt.no
  | none => exact (evOp_nt o.op o.type st n hop).map fun x => (x.1, x.2, n + 8)
end
end Go.Ev

namespace Go.Ev

theorem mem_uniq : ∀ {l : List Nat} {a : Nat}, a ∈ uniq l ↔ a ∈ l
  | [], _ => by simp [uniq]
  | b :: r, a => by
    simp only [uniq, List.mem_cons, List.mem_filter, bne_iff_ne, ne_eq]
    rw [mem_uniq (l := r)]
    constructor
    · rintro (h | h)
      · exact .inl h
      · exact .inr h.1
    · rintro (h | h)
      · exact .inl h
      · by_cases e : a = b
        · exact .inl e
        · exact .inr ⟨h, e⟩

theorem reach_sub (H : Heap) : ∀ (f : Nat) (l : List Nat), ∀ id ∈ l, id ∈ reach H f l
  | 0, l, id, h => h
  | f + 1, l, id, h => by
    simp only [reach]
    split
    · exact h
    · exact reach_sub H f _ id (by rw [mem_uniq]; simp [h])

theorem reach_congr {H H2 : Heap} : ∀ (f : Nat) (l : List Nat), (∀ id ∈ reach H f l, H2 id = H id) → reach H2 f l = reach H f l
  | 0, l, _ => rfl
  | f + 1, l, h => by
    have hl : ∀ id ∈ l, H2 id = H id := fun id hid => h id (reach_sub H (f + 1) l id hid)
    have e : l.flatMap H2.refsAt = l.flatMap H.refsAt := by
      clear h
      induction l with
      | nil => rfl
      | cons a l ih => simp only [List.flatMap_cons, Heap.refsAt]; rw [hl a (by simp)]; rw [ih fun id hid => hl id (by simp [hid])]
    simp only [reach] at h ⊢
    rw [e]
    split
    · rfl
    · rename_i hne
      rw [if_neg hne] at h
      exact reach_congr f _ h

/-- All that is reached is named by the names, or by what is there. -/
theorem reach_from {H : Heap} {A : Nat → Prop} (hH : ∀ id o, H id = some o → ∀ j ∈ o.t.refs, A j) : ∀ (f : Nat) (l : List Nat), (∀ id ∈ l, A id) → ∀ id ∈ reach H f l, A id
  | 0, l, h => h
  | f + 1, l, h => by
    simp only [reach]
    split
    · exact h
    · refine reach_from hH f _ fun id hid => ?_
      rw [mem_uniq] at hid
      rcases List.mem_append.1 hid with hid | hid
      · exact h id hid
      · obtain ⟨a, h1, h2⟩ := List.mem_flatMap.1 hid
        unfold Heap.refsAt at h2
        cases e : H a with
        | none => rw [e] at h2; simp at h2
        | some o => rw [e] at h2; exact hH a o e id h2

noncomputable def eagerV (b : Bool) (v : AV) : AV := match b, v with
  | true, .dat .bool x => .lb x
  | _, v => v

theorem eager_some {R : Type} {b : Bool} {v : AV} {k : AV → Option R} {r : R} (h : eager b v k = some r) : k (eagerV b v) = some r := by
  cases b with
  | false => exact h
  | true =>
    cases v <;> first | exact h | skip
    rename_i t x
    cases t <;> first | exact h | skip
    simp only [eager, eagerV, br_eq] at h ⊢
    cases x <;> exact h

theorem eagerV_ids (b : Bool) (v : AV) : ∀ id ∈ (eagerV b v).ids, id ∈ v.ids := by
  intro id h
  cases b with
  | false => exact h
  | true =>
    cases v <;> first | exact h | skip
    rename_i t x
    cases t <;> first | exact h | (simp [eagerV, AV.ids] at h)

theorem nh_eq (P : Program) (C : Handler) {op : Op} (T : TypeId) (st : St) (n : Nat) (h : opNh P op = true) {R : Type} (k : AV → Heap → Option R) : evOp P C op T st n k = nhOp P op st.eval fun v => k v st.heap := by
  cases op <;> simp only [opNh, Bool.false_eq_true] at h
  case binOp op t x y q =>
    simp only [Bool.not_eq_true'] at h
    simp only [evOp, nhOp, evSl]
    rw [h]; rfl
  all_goals rfl

theorem nh_nt (P : Program) {op : Op} (ρ : St) (h : opNh P op = true) : Nt (X := AV) fun R k => nhOp P op ρ.eval k := by
  have hop : opNt P op = true := by cases op <;> first | rfl | exact h
  intro R k
  have C : Handler := fun _ _ _ _ _ _ => none
  have key : ∀ (R : Type) (k : AV → Option R), nhOp P op ρ.eval k = (evOp P C op 0 ρ 0 (fun v H => some ((v, H) : AVH))).bind fun x => k x.1 := fun R k => by
    have h1 := evOp_nt (P := P) (C := C) op 0 ρ 0 hop R (fun x => k x.1)
    simp only at h1
    rw [← h1, nh_eq P C 0 ρ 0 h]
  simp only
  rw [key R k, key AV some]
  cases evOp P C op 0 ρ 0 (fun v H => some ((v, H) : AVH)) <;> rfl

theorem nh_congr (P : Program) {op : Op} {ρ ρ' : Operand → AV} (h : ∀ x ∈ op.operands.toList, ρ' x = ρ x) {R : Type} (k : AV → Option R) : nhOp P op ρ' k = nhOp P op ρ k := by
  cases op <;> simp [Op.operands] at h <;> simp only [nhOp] <;> simp_all

section
variable {P : Program} {C : Handler} {ops : Array Oper} {n : Nat}

/-- What an operation does: its answer, and the objects that it sees, behind it. -/
inductive Core (P : Program) (C : Handler) (ops : Array Oper) (n : Nat) (a : Seen) (st : St) : AV → Option Heap → Prop where
  | run {v : AV} {H : Heap} {m : Nat} (hg : ∀ j want, a.o.guard = some (j, want) → ∃ t, (ops[j]?).bind (·.dst) = some t ∧ st.tmps t = .lb want) (hv : a.vis = visOf st a.o) (hok : visOk st.heap a.vis (n + 64 * a.i) = true) (hop : opNt P a.o.op = true)
      (he : evO P C a.o (st.only (opTmps a.o) a.vis) (n + 64 * a.i) (fun v H m => some ((v, H, m) : Out)) = some (v, H, m)) (hm : m ≤ n + 64 * a.i + 64) (hi : ∀ id ∈ v.ids, id ∈ a.vis ∨ inSp (n + 64 * a.i) id = true)
      (hn : opRd a.o.op = false → newOk (st.only [] a.vis).heap H a.vis (n + 64 * a.i) = true) : Core P C ops n a st (eagerV (isGuard ops a.i) v) (if opRd a.o.op then none else some H)
  | pure {v : AV} (hg : ∀ j want, a.o.guard = some (j, want) → ∃ t, (ops[j]?).bind (·.dst) = some t ∧ st.tmps t = .lb want) (hv : a.vis = []) (hop : opNh P a.o.op = true) (he : nhOp P a.o.op st.eval (fun v => some v) = some v)
      (hi : ∀ id ∈ v.ids, id ∈ opIds st a.o) : Core P C ops n a st (eagerV (isGuard ops a.i) v) none
  | skip {j t : Nat} {want b : Bool} (hg : a.o.guard = some (j, want)) (ht : (ops[j]?).bind (·.dst) = some t) (hb : st.tmps t = .lb b) (hne : b ≠ want) (hv : a.vis = []) : Core P C ops n a st .any none

noncomputable def Seen.heap (n : Nat) (a : Seen) (H : Heap) : Option Heap → Heap
  | none => H
  | some H' => mergeH H H' a.vis (n + 64 * a.i)
noncomputable def Seen.app (n : Nat) (a : Seen) (st : St) (v : AV) (h : Option Heap) : St := ({ st with heap := a.heap n st.heap h } : St).dst a.o.dst v

def Step (P : Program) (C : Handler) (ops : Array Oper) (n : Nat) (a : Seen) (st st' : St) : Prop := ∃ v h, Core P C ops n a st v h ∧ st' = a.app n st v h

theorem evX_step {R : Type} {o : Oper} {i : Nat} {st : St} {k : List Nat → St → Option R} {r : R} (hC : HandlerNt C) (h : evX P C ops n o i st k = some r) :
    ∃ vis st', Step P C ops n ⟨o, i, vis⟩ st st' ∧ k vis st' = some r := by
  unfold evX at h
  have go : ∀ (_ : ∀ j want, o.guard = some (j, want) → ∃ t, (ops[j]?).bind (·.dst) = some t ∧ st.tmps t = .lb want), (if opNh P o.op then nhOp P o.op st.eval fun v => if v.ids.all (fun id => (opIds st o).contains id) then eager (isGuard ops i) v fun v => k [] (st.dst o.dst v) else none else if visOk st.heap (visOf st o) (n + 64 * i) && opNt P o.op then
      evO P C o (st.only (opTmps o) (visOf st o)) (n + 64 * i) fun v H m =>
      if Nat.ble m (n + 64 * i + 64) && v.ids.all (fun id => (visOf st o).contains id || inSp (n + 64 * i) id) && (opRd o.op || newOk (st.only [] (visOf st o)).heap H (visOf st o) (n + 64 * i)) then
        eager (isGuard ops i) v fun v => k (visOf st o) (({ st with heap := if opRd o.op then st.heap else mergeH st.heap H (visOf st o) (n + 64 * i) } : St).dst o.dst v)
      else none else none) = some r → ∃ vis st', Step P C ops n ⟨o, i, vis⟩ st st' ∧ k vis st' = some r := by
    intro hg h
    split at h
    · rename_i hnh
      obtain ⟨v, h1, h2⟩ := (nh_nt P st hnh).get (k := fun v => if v.ids.all (fun id => (opIds st o).contains id) then eager (isGuard ops i) v fun v => k [] (st.dst o.dst v) else none) h
      obtain ⟨hc, h2⟩ := ite_some h2
      simp only [List.all_eq_true, List.contains_iff_mem] at hc
      exact ⟨[], _, ⟨_, _, Core.pure hg rfl hnh h1 hc, rfl⟩, eager_some h2⟩
    obtain ⟨hvok, h⟩ := ite_some h
    rw [Bool.and_eq_true] at hvok
    obtain ⟨hvok, hop⟩ := hvok
    obtain ⟨⟨v, H, m⟩, h1, h2⟩ := (evO_nt hC o _ _ hop).get (k := fun x => if Nat.ble x.2.2 (n + 64 * i + 64) && x.1.ids.all (fun id => (visOf st o).contains id || inSp (n + 64 * i) id) && (opRd o.op || newOk (st.only [] (visOf st o)).heap x.2.1 (visOf st o) (n + 64 * i)) then
        eager (isGuard ops i) x.1 fun v => k (visOf st o) (({ st with heap := if opRd o.op then st.heap else mergeH st.heap x.2.1 (visOf st o) (n + 64 * i) } : St).dst o.dst v)
      else none) h
    obtain ⟨hc, h2⟩ := ite_some h2
    simp only [Bool.and_eq_true, List.all_eq_true, Bool.or_eq_true, List.contains_iff_mem] at hc
    obtain ⟨⟨c1, c2⟩, c3⟩ := hc
    have h3 := eager_some h2
    refine ⟨_, _, ⟨_, _, Core.run (m := m) hg rfl hvok hop h1 (Nat.le_of_ble_eq_true c1) c2 (fun hr => c3.resolve_left (by rw [show opRd o.op = false from hr]; simp)), rfl⟩, ?_⟩
    unfold Seen.app Seen.heap
    cases hr : opRd o.op with
    | true => simp only [hr, if_true] at h3 ⊢; exact h3
    | false => simp only [hr, Bool.false_eq_true, if_false] at h3 ⊢; exact h3
  simp only at h
  split at h
  · rename_i hg; exact go (fun j want e => by rw [hg] at e; simp at e) h
  · rename_i j want hg
    split at h
    · simp at h
    · rename_i t ht
      split at h
      · rename_i b hb
        split at h
        · rename_i e
          subst e
          refine go (fun j' want' e => ?_) h
          rw [hg] at e
          simp only [Option.some.injEq, Prod.mk.injEq] at e
          obtain ⟨rfl, rfl⟩ := e
          exact ⟨t, ht, hb⟩
        · rename_i hne
          exact ⟨[], _, ⟨_, _, Core.skip hg ht hb hne rfl, rfl⟩, h⟩
      · simp at h

/-- What an operation does hangs on what it sees. -/
theorem Core.congr {a : Seen} {st st2 : St} {v : AV} {h : Option Heap} (hc : Core P C ops n a st v h) (ht : ∀ t, t ∈ opTmps a.o ∨ t ∈ guardTmp ops a.o → st2.tmps t = st.tmps t) (hH : ∀ id ∈ a.vis, st2.heap id = st.heap id) : Core P C ops n a st2 v h := by
  have he1 : ∀ x ∈ a.o.op.operands.toList, st2.eval x = st.eval x := fun x hx => by
    cases x with
    | tmp t => exact ht t (.inl (by unfold opTmps; rw [List.mem_filterMap]; exact ⟨.tmp t, hx, rfl⟩))
    | _ => rfl
  have hids : opIds st2 a.o = opIds st a.o := by
    unfold opIds
    generalize a.o.op.operands.toList = l at he1
    induction l with
    | nil => rfl
    | cons x l ih => simp only [List.flatMap_cons]; rw [he1 x (by simp), ih fun y hy => he1 y (by simp [hy])]
  cases hc with
  | pure hg hv hop he hi =>
    refine Core.pure (fun j want e => ?_) hv hop (by rw [nh_congr P he1]; exact he) (by rw [hids]; exact hi)
    obtain ⟨t, h1, h2⟩ := hg j want e
    refine ⟨t, h1, ?_⟩
    rw [ht t (.inr (by unfold guardTmp; rw [e]; simp only; rw [h1]; simp))]
    exact h2
  | run hg hv hok hop he hm hi hn =>
    have hvis : a.vis = visOf st2 a.o := by
      unfold visOf at hv ⊢
      rw [hids, hv]
      exact (reach_congr 8 _ fun id hid => hH id (by rw [hv]; exact hid)).symm
    have honly : ∀ ts, (∀ t ∈ ts, st2.tmps t = st.tmps t) → st2.only ts a.vis = st.only ts a.vis := fun ts hts => by
      unfold St.only
      congr 1
      · funext t
        split
        · rename_i h; exact hts t (by simpa using h)
        · rfl
      · funext id
        split
        · rename_i h; exact hH id (by simpa using h)
        · rfl
    refine Core.run (fun j want e => ?_) hvis ?_ hop (by rw [honly _ fun t h => ht t (.inl h)]; exact he) hm hi (fun hr => by rw [honly [] (by simp)]; exact hn hr)
    · obtain ⟨t, h1, h2⟩ := hg j want e
      refine ⟨t, h1, ?_⟩
      rw [ht t (.inr (by unfold guardTmp; rw [e]; simp only; rw [h1]; simp))]
      exact h2
    · unfold visOk at hok ⊢
      rw [List.all_eq_true] at hok ⊢
      intro id hid
      rw [hH id hid]
      exact hok id hid
  | skip hg h1 hb hne hv =>
    rename_i j t want b
    refine Core.skip hg h1 ?_ hne hv
    rw [ht t (.inr (by unfold guardTmp; rw [hg]; simp only; rw [h1]; simp))]
    exact hb

theorem Core.rd {a : Seen} {st : St} {v : AV} {h : Option Heap} (hc : Core P C ops n a st v h) {H : Heap} (e : h = some H) : opRd a.o.op = false := by
  cases hc with
  | run =>
    cases hr : opRd a.o.op with
    | false => rfl
    | true => rw [hr] at e; simp at e
  | pure => simp at e
  | skip => simp at e

theorem app_tmps {a : Seen} {st : St} {v : AV} {h : Option Heap} (t : Nat) : (a.app n st v h).tmps t = if a.o.dst = some t then v else st.tmps t := by
  unfold Seen.app
  cases e : a.o.dst with
  | none => simp [St.dst]
  | some d =>
    simp only [St.dst, St.put, Option.some.injEq]
    by_cases hd : d = t
    · subst hd; simp
    · rw [if_neg hd, if_neg (fun e => hd e.symm)]

theorem app_heap {a : Seen} {st : St} {v : AV} {h : Option Heap} : (a.app n st v h).heap = a.heap n st.heap h := by
  unfold Seen.app
  cases a.o.dst <;> rfl

theorem sp_disj {i j id : Nat} (h : i ≠ j) (h1 : inSp (n + 64 * i) id = true) (h2 : inSp (n + 64 * j) id = true) : False := by
  unfold inSp at h1 h2
  simp only [Bool.and_eq_true] at h1 h2
  have a1 := Nat.le_of_ble_eq_true h1.1
  have a2 := Nat.le_of_ble_eq_true h1.2
  have b1 := Nat.le_of_ble_eq_true h2.1
  have b2 := Nat.le_of_ble_eq_true h2.2
  omega

theorem comm {a b : Seen} {st st1 st2 : St} (hc : commute ops n a b = true) (hne : a.i ≠ b.i) (h1 : Step P C ops n a st st1) (h2 : Step P C ops n b st1 st2) : ∃ st3, Step P C ops n b st st3 ∧ Step P C ops n a st3 st2 := by
  obtain ⟨va, ha, ca, rfl⟩ := h1
  obtain ⟨vb, hb, cb, rfl⟩ := h2
  unfold commute at hc
  simp only [Bool.and_eq_true] at hc
  obtain ⟨⟨⟨c1, c2⟩, c3⟩, c4⟩ := hc
  have slot : ∀ {a b : Seen} {v : AV} {h : Option Heap} {st : St}, slotsOk ops a.o b.o = true → ∀ t, t ∈ opTmps b.o ∨ t ∈ guardTmp ops b.o → (a.app n st v h).tmps t = st.tmps t := by
    intro a b v h st hs t ht
    rw [app_tmps, if_neg]
    intro e
    unfold slotsOk at hs
    rw [e] at hs
    simp only [Bool.and_eq_true, Bool.not_eq_true', bne_iff_ne, ne_eq] at hs
    rcases ht with ht | ht
    · have := hs.1.1; simp [ht] at this
    · have := hs.1.2; simp [ht] at this
  have apart : ∀ {a b : Seen} {h : Option Heap} {H : Heap}, apartL n a b = true → (∀ H, h = some H → opRd a.o.op = false) → ∀ id ∈ b.vis, a.heap n H h id = H id := by
    intro a b h H hs hr id hid
    cases h with
    | none => rfl
    | some H' =>
      have hr := hr H' rfl
      unfold apartL at hs
      rw [hr, Bool.false_or, List.all_eq_true] at hs
      have := hs id hid
      simp only [Bool.not_eq_true'] at this
      show mergeH H H' a.vis (n + 64 * a.i) id = H id
      unfold mergeH
      rw [this]; rfl
  have cb' : Core P C ops n b st vb hb := cb.congr (fun t ht => (slot c1 t ht).symm) (fun id hid => by rw [app_heap]; exact (apart c3 (fun H e => ca.rd e) id hid).symm)
  have ca' : Core P C ops n a (b.app n st vb hb) va ha := ca.congr (fun t ht => slot c2 t ht) (fun id hid => by rw [app_heap]; exact apart c4 (fun H e => cb'.rd e) id hid)
  refine ⟨_, ⟨vb, hb, cb', rfl⟩, va, ha, ca', ?_⟩
  have hdst : ∀ t, a.o.dst = some t → b.o.dst ≠ some t := fun t e => by
    unfold slotsOk at c1
    rw [e] at c1
    simp only [Bool.and_eq_true, bne_iff_ne, ne_eq] at c1
    exact c1.2
  have hext : ∀ (s1 s2 : St), s1.tmps = s2.tmps → s1.heap = s2.heap → s1 = s2 := fun s1 s2 h1 h2 => by cases s1; cases s2; simp only at h1 h2; rw [h1, h2]
  apply hext
  · funext t
    rw [app_tmps, app_tmps, app_tmps, app_tmps]
    by_cases e1 : a.o.dst = some t
    · rw [if_pos e1, if_pos e1, if_neg (hdst t e1)]
    · rw [if_neg e1, if_neg e1]
  · rw [app_heap, app_heap, app_heap, app_heap]
    cases ha with
    | none => cases hb <;> rfl
    | some Ha =>
      cases hb with
      | none => rfl
      | some Hb =>
        have ra := ca.rd rfl
        have rb := cb.rd rfl
        funext id
        show mergeH (mergeH st.heap Ha a.vis (n + 64 * a.i)) Hb b.vis (n + 64 * b.i) id = mergeH (mergeH st.heap Hb b.vis (n + 64 * b.i)) Ha a.vis (n + 64 * a.i) id
        unfold apartL at c3 c4
        rw [ra, Bool.false_or, List.all_eq_true] at c3
        rw [rb, Bool.false_or, List.all_eq_true] at c4
        unfold mergeH
        by_cases e1 : (a.vis.contains id || inSp (n + 64 * a.i) id) = true
        · have e2 : (b.vis.contains id || inSp (n + 64 * b.i) id) = false := by
            cases hx : (b.vis.contains id || inSp (n + 64 * b.i) id) with
            | false => rfl
            | true =>
              exfalso
              simp only [Bool.or_eq_true, List.contains_iff_mem] at e1 hx
              rcases hx with hx | hx
              · have := c3 id hx
                simp only [Bool.not_eq_true', Bool.or_eq_false_iff] at this
                rcases e1 with e1 | e1
                · have := this.1; simp [e1] at this
                · rw [e1] at this; simp at this
              · rcases e1 with e1 | e1
                · have := c4 id e1
                  simp only [Bool.not_eq_true', Bool.or_eq_false_iff] at this
                  rw [hx] at this; simp at this
                · exact sp_disj hne e1 hx
          simp only [e1, e2, if_true, Bool.false_eq_true, if_false]
        · have e1 : (a.vis.contains id || inSp (n + 64 * a.i) id) = false := by simpa using e1
          simp only [e1, Bool.false_eq_true, if_false]

/-- One operation after the other. -/
inductive Runs (P : Program) (C : Handler) (ops : Array Oper) (n : Nat) : List Seen → St → St → Prop where
  | nil {st : St} : Runs P C ops n [] st st
  | cons {a : Seen} {l : List Seen} {st st1 st2 : St} (h : Step P C ops n a st st1) (t : Runs P C ops n l st1 st2) : Runs P C ops n (a :: l) st st2

theorem Runs.first {a : Seen} {l2 : List Seen} : ∀ {l1 : List Seen} {st st2 : St}, (∀ d ∈ l1, commute ops n d a = true ∧ d.i ≠ a.i) → Runs P C ops n (l1 ++ a :: l2) st st2 → ∃ st1, Step P C ops n a st st1 ∧ Runs P C ops n (l1 ++ l2) st1 st2
  | [], st, st2, _, h => by cases h with | cons h t => exact ⟨_, h, t⟩
  | d :: l1, st, st2, hd, h => by
    cases h with
    | cons h t =>
      obtain ⟨st1, k1, k2⟩ := Runs.first (fun d hd' => hd d (by simp [hd'])) t
      obtain ⟨st3, g1, g2⟩ := comm (hd d (by simp)).1 (hd d (by simp)).2 h k1
      exact ⟨st3, g1, .cons g2 k2⟩

theorem evDraws_runs {R : Type} {cls : List Nat} {k : St → Option R} {r : R} (hC : HandlerNt C) : ∀ (l : List Oper) {i : Nat} {seen : List Seen} {st : St}, evDraws P C ops cls n l i seen st k = some r →
    ∃ rs st', Runs P C ops n rs st st' ∧ k st' = some r ∧ rs.map (fun s => (s.o, s.i)) = l.zipIdx i ∧ (∀ s ∈ seen, ∀ x ∈ rs, (cls.getD x.i 0).testBit s.i = true ∨ commute ops n s x = true) ∧
      rs.Pairwise fun s x => (cls.getD x.i 0).testBit s.i = true ∨ commute ops n s x = true := by
  intro l
  induction l with
  | nil => intro i seen st h; exact ⟨[], st, .nil, h, rfl, by simp, .nil⟩
  | cons o l ih =>
    intro i seen st h
    simp only [evDraws] at h
    obtain ⟨vis, st1, h1, h2⟩ := evX_step hC h
    obtain ⟨hc, h2⟩ := ite_some h2
    simp only [List.all_eq_true, Bool.or_eq_true] at hc
    obtain ⟨rs, st', k1, k2, k3, k4, k5⟩ := ih h2
    refine ⟨⟨o, i, vis⟩ :: rs, st', .cons h1 k1, k2, by simp [k3, List.zipIdx_cons], fun s hs x hx => ?_, .cons (fun x hx => k4 ⟨o, i, vis⟩ (by simp) x hx) k5⟩
    rcases List.mem_cons.1 hx with rfl | hx
    · exact hc s hs
    · exact k4 s (by simp [hs]) x hx
end
end Go.Ev

