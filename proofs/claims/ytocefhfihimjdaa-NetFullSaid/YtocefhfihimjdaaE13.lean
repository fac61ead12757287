/- A way to show what code computes: part 13: no condition. -/
import Derived.Test.YtocefhfihimjdaaE12
import Derived.Orders
import Derived.Below
set_option linter.unusedVariables false
namespace Go.Ev

/-- Something that gives one thing, and the objects as they are. -/
def Rd (H : Heap) (F : (R : Type) → (AVH → Option R) → Option R) : Prop := ∀ (R : Type) (k k' : AVH → Option R), (∀ v, k (v, H) = k' (v, H)) → F R k = F R k'

section
variable {H : Heap} {A : Type} {F G : (R : Type) → (AVH → Option R) → Option R}
theorem Rd.pure (v : AV) : Rd H fun _ k => k (v, H) := fun _ _ _ h => h v
theorem Rd.no : Rd H fun _ _ => none := fun _ _ _ _ => rfl
theorem Rd.bind {o : Option A} {f : A → (R : Type) → (AVH → Option R) → Option R} (h : ∀ a, Rd H (f a)) : Rd H fun R k => o.bind fun a => f a R k := by
  intro R k k' hk
  cases o with
  | none => rfl
  | some a => exact h a R k k' hk
theorem Rd.ite {p : Prop} [Decidable p] (h : Rd H F) (g : Rd H G) : Rd H fun R k => if p then F R k else G R k := by
  intro R k k' hk
  by_cases hp : p
  · simp only [if_pos hp]; exact h R k k' hk
  · simp only [if_neg hp]; exact g R k k' hk
theorem Rd.grd {p : Prop} [Decidable p] (h : Rd H F) : Rd H fun R k => grd p (F R k) := by
  intro R k k' hk
  simp only
  rw [h R k k' hk]
theorem Rd.br {b : Bool} (h : Rd H F) (g : Rd H G) : Rd H fun R k => br b (F R k) (G R k) := by
  intro R k k' hk
  simp only
  rw [h R k k' hk, g R k k' hk]

variable {P : Program} {C : Handler}

theorem evOp_rd (op : Op) (T : TypeId) (st : St) (n : Nat) (hr : opRd op = true) (hop : opNt P op = true) : Rd st.heap fun R k => evOp P C op T st n fun v H => k (v, H) := by
  unfold evOp
  dsimp only
  cases op <;> simp [opRd] at hr <;> (try dsimp only) <;> first | exact Rd.no | exact Rd.pure _ | skip
  case pick c a b =>
    generalize st.eval c = v
    cases v <;> (try dsimp only) <;> first | exact Rd.no | exact Rd.ite (Rd.pure _) (Rd.pure _) | skip
    rename_i t x
    cases t <;> (try dsimp only) <;> first | exact Rd.no | exact Rd.br (Rd.pure _) (Rd.pure _)
  case load t a =>
    generalize st.eval a = v
    cases v <;> (try dsimp only) <;> first | exact Rd.ite (Rd.pure _) Rd.no | exact Rd.bind fun pl => Rd.ite (Rd.pure _) Rd.no
  case nilCheck x =>
    generalize st.eval x = v
    cases v <;> (try dsimp only) <;> first | exact Rd.no | exact Rd.pure _
  case binOp op t x y q =>
    simp only [opNt, Bool.not_eq_true'] at hop
    unfold evSl
    rw [hop]
    simp only [Bool.false_eq_true, if_false]
    intro R k k' hk
    have h1 := (evBin_nt P op t (st.eval x) (st.eval y)) R (fun v => k (v, st.heap))
    have h2 := (evBin_nt P op t (st.eval x) (st.eval y)) R (fun v => k' (v, st.heap))
    simp only at h1 h2 ⊢
    rw [h1, h2, show (fun v => k (v, st.heap)) = fun v => k' (v, st.heap) from funext hk]
  case unOp op t x =>
    intro R k k' hk
    have h1 := (evUn_nt op (st.eval x)) R (fun v => k (v, st.heap))
    have h2 := (evUn_nt op (st.eval x)) R (fun v => k' (v, st.heap))
    simp only at h1 h2 ⊢
    rw [h1, h2, show (fun v => k (v, st.heap)) = fun v => k' (v, st.heap) from funext hk]
  case makeFunc fn first caps =>
    cases fn <;> (try dsimp only) <;> first | exact Rd.no | exact Rd.ite (Rd.pure _) Rd.no
  case fieldAddr s x f =>
    generalize P.underlying s = u
    cases u with
    | none => exact Rd.no
    | some u =>
      cases u <;> (try dsimp only) <;> first | exact Rd.no | skip
      rename_i fs
      generalize fs[f]? = fd
      cases fd with
      | none => exact Rd.no
      | some fd =>
        dsimp only
        generalize st.eval x = v
        cases v <;> (try dsimp only) <;> first | exact Rd.no | exact Rd.ite (Rd.pure _) Rd.no | skip
        rename_i t y
        generalize t.field (fieldPath fs.size f) = q
        cases q with
        | none => exact Rd.no
        | some q => exact Rd.ite (Rd.bind fun v => Rd.pure _) Rd.no
  case field s x f =>
    generalize P.underlying s = u
    cases u with
    | none => exact Rd.no
    | some u =>
      cases u <;> (try dsimp only) <;> first | exact Rd.no | skip
      rename_i fs
      generalize fs[f]? = fd
      cases fd with
      | none => exact Rd.no
      | some fd =>
        refine Rd.bind fun ⟨off, v⟩ => ?_
        dsimp only
        generalize v.width = m
        generalize v.agg = g
        cases m with
        | none => exact Rd.no
        | some m =>
          cases g with
          | none => exact Rd.no
          | some g => exact Rd.ite (Rd.pure _) Rd.no
  case indexAddr t x i =>
    generalize P.underlying t = u
    generalize st.eval i = y
    generalize st.eval x = v
    cases u with
    | none => exact Rd.no
    | some u =>
      cases u <;> (try dsimp only) <;> first | exact Rd.no | skip
      case array m e =>
        cases y <;> (try dsimp only) <;> first | exact Rd.no | skip
        rename_i ty a
        cases ty <;> (try dsimp only) <;> first | exact Rd.no | skip
        cases v <;> (try dsimp only) <;> first | exact Rd.no | skip
        case ptr =>
          refine Rd.bind fun pl => ?_
          obtain ⟨id, p, o, ⟨pt, px⟩⟩ := pl
          cases pt <;> (try dsimp only) <;> first | exact Rd.no | exact Rd.ite (Rd.grd (Rd.grd (Rd.pure _))) Rd.no
        case vptr t y => cases t <;> (try dsimp only) <;> first | exact Rd.no | exact Rd.ite (Rd.grd (Rd.grd (Rd.pure _))) Rd.no
      case slice e =>
        cases y <;> (try dsimp only) <;> first | exact Rd.no | skip
        rename_i ty a
        cases ty <;> (try dsimp only) <;> first | exact Rd.no | skip
        cases v <;> (try dsimp only) <;> first | exact Rd.no | skip
        case slw =>
          refine Rd.bind fun ⟨o, ⟨t, l⟩⟩ => ?_
          cases t <;> (try dsimp only) <;> first | exact Rd.no | exact Rd.ite (Rd.grd (Rd.grd (Rd.pure _))) Rd.no
        case sub =>
          refine Rd.bind fun ⟨o, ⟨t, l⟩⟩ => ?_
          cases t <;> (try dsimp only) <;> first | exact Rd.no | exact Rd.ite (Rd.grd (Rd.grd (Rd.pure _))) Rd.no
        case dat t l => cases t <;> (try dsimp only) <;> first | exact Rd.no | exact Rd.ite (Rd.grd (Rd.grd (Rd.pure _))) Rd.no
  case index t x i =>
    generalize P.underlying t = u
    generalize st.eval i = y
    generalize st.eval x = v
    cases u with
    | none => exact Rd.no
    | some u =>
      cases u <;> (try dsimp only) <;> first | exact Rd.no | skip
      case string =>
        cases v <;> (try dsimp only) <;> first | exact Rd.no | skip
        rename_i tv xv
        cases tv <;> (try dsimp only) <;> first | exact Rd.no | skip
        cases y <;> (try dsimp only) <;> first | exact Rd.no | skip
        rename_i ty a
        cases ty <;> (try dsimp only) <;> first | exact Rd.no | exact Rd.grd (Rd.grd (Rd.pure _))
      case array m e =>
        cases v <;> (try dsimp only) <;> first | exact Rd.no | skip
        rename_i tv xv
        cases tv <;> (try dsimp only) <;> first | exact Rd.no | skip
        cases y <;> (try dsimp only) <;> first | exact Rd.no | skip
        rename_i ty a
        cases ty <;> (try dsimp only) <;> first | exact Rd.no | exact Rd.ite (Rd.grd (Rd.grd (Rd.pure _))) Rd.no
  case extract t i => exact Rd.bind fun v => Rd.pure _
  case call c =>
    unfold evCall
    dsimp only
    generalize c.args.toList.map st.eval = args
    cases hcc : c.callee with
    | value f => exact Rd.no
    | invoke f m => exact Rd.no
    | builtin b =>
      rw [hcc] at hr
      cases b <;> simp at hr <;> (try dsimp only)
      case len =>
        generalize c.argTypes[0]? = T
        cases T with
        | none => exact Rd.no
        | some T =>
          match args with
          | [] => exact Rd.no
          | _ :: _ :: _ => exact Rd.no
          | [x] =>
            dsimp only
            generalize P.underlying T = u
            cases u with
            | none => exact Rd.no
            | some u =>
              cases u <;> (try dsimp only) <;> first | exact Rd.no | skip
              case string =>
                cases x <;> (try dsimp only) <;> first | exact Rd.no | skip
                rename_i t y
                cases t <;> (try dsimp only) <;> first | exact Rd.no | exact Rd.pure _
              case slice => cases x <;> (try dsimp only) <;> first | exact Rd.pure _ | exact Rd.bind fun l => Rd.pure _
      case min =>
        match args with
        | [] => exact Rd.no
        | [x] => cases x <;> (try dsimp only) <;> first | exact Rd.no | (rename_i t y; cases t <;> exact Rd.no)
        | x :: y :: z :: r =>
          cases x <;> (try dsimp only) <;> first | exact Rd.no | skip
          rename_i t a
          cases t <;> (try dsimp only) <;> first | exact Rd.no | skip
          cases y <;> (try dsimp only) <;> first | exact Rd.no | skip
          rename_i t a
          cases t <;> (try dsimp only) <;> exact Rd.no
        | [x, y] =>
          cases x <;> (try dsimp only) <;> first | exact Rd.no | skip
          rename_i t a
          cases t <;> (try dsimp only) <;> first | exact Rd.no | skip
          cases y <;> (try dsimp only) <;> first | exact Rd.no | skip
          rename_i t a
          cases t <;> (try dsimp only) <;> first | exact Rd.no | exact Rd.ite (Rd.pure _) Rd.no
      case max =>
        match args with
        | [] => exact Rd.no
        | [x] => cases x <;> (try dsimp only) <;> first | exact Rd.no | (rename_i t y; cases t <;> exact Rd.no)
        | x :: y :: z :: r =>
          cases x <;> (try dsimp only) <;> first | exact Rd.no | skip
          rename_i t a
          cases t <;> (try dsimp only) <;> first | exact Rd.no | skip
          cases y <;> (try dsimp only) <;> first | exact Rd.no | skip
          rename_i t a
          cases t <;> (try dsimp only) <;> exact Rd.no
        | [x, y] =>
          cases x <;> (try dsimp only) <;> first | exact Rd.no | skip
          rename_i t a
          cases t <;> (try dsimp only) <;> first | exact Rd.no | skip
          cases y <;> (try dsimp only) <;> first | exact Rd.no | skip
          rename_i t a
          cases t <;> (try dsimp only) <;> first | exact Rd.no | exact Rd.ite (Rd.pure _) Rd.no

open Classical in
theorem evO_rd {o : Oper} {st : St} {n : Nat} {v : AV} {H : Heap} {m : Nat} (hr : opRd o.op = true) (hop : opNt P o.op = true) (h : evO P C o st n (fun v H m => some ((v, H, m) : Out)) = some (v, H, m)) : H = st.heap := by
  unfold evO at h
  have hu : userOf o.op = none := by
    unfold userOf
    cases ho : o.op <;> simp only
    rename_i c
    rw [ho] at hr
    simp only [opRd] at hr
    cases hc : c.callee <;> rw [hc] at hr <;> simp at hr ⊢
  rw [hu] at h
  simp only at h
  have h2 := evOp_rd (P := P) (C := C) o.op o.type st n hr hop Out (fun x => some (x.1, x.2, n + 8)) (fun x => if x.2 = st.heap then some (x.1, x.2, n + 8) else none) (fun v => by simp)
  simp only at h2
  rw [h2] at h
  obtain ⟨x, h3, h4⟩ := (evOp_nt (P := P) (C := C) o.op o.type st n hop).get (k := fun x => if x.2 = st.heap then some ((x.1, x.2, n + 8) : Out) else none) h
  obtain ⟨h5, h6⟩ := ite_some h4
  simp only [Option.some.injEq, Prod.mk.injEq] at h6
  rw [← h6.2.1, h5]
end
end Go.Ev

namespace Go.Ev

theorem ObjPres.sigs {w w' : World} {σ σ' σ1 σ1' : Nat → Value} {ob ob' : Obj} {id : Nat} (h : ObjPres w σ ob w' σ' ob' id) (h1 : σ1 id = σ id) (h2 : σ1' id = σ' id) : ObjPres w σ1 ob w' σ1' ob' id := by
  refine ⟨h.ev, fun hdr p ver hv hok u' hu' => ?_⟩
  rw [h1, h2]
  exact h.at_ hdr p ver hv hok u' hu'

theorem ofValue_ids (v : Value) : (AV.ofValue v).ids = [] := by
  unfold AV.ofValue
  split
  · split <;> rfl
  · rfl
  · split <;> rfl
  · rfl
  · rfl
  · rfl

/-- Names that may be met once some operations are done. -/
def Al (n : Nat) (ex : List Nat) (id : Nat) : Prop := id < n ∨ ∃ e ∈ ex, n + 64 * e ≤ id ∧ id < n + 64 * e + 64
theorem Al.more {n : Nat} {ex : List Nat} {i id : Nat} (h : Al n ex id) : Al n (i :: ex) id := by
  rcases h with h | ⟨e, h1, h2⟩
  · exact .inl h
  · exact .inr ⟨e, by simp [h1], h2⟩
theorem Al.out {n : Nat} {ex : List Nat} {i id : Nat} (h : Al n ex id) (hi : i ∉ ex) : ¬ (n + 64 * i ≤ id ∧ id < n + 64 * i + 64) := by
  rintro ⟨h1, h2⟩
  rcases h with h | ⟨e, h3, h4, h5⟩
  · omega
  · have : e = i := by omega
    subst this; exact hi h3

structure DInv (n : Nat) (ex : List Nat) (st : St) : Prop where
  objs : ∀ id o, st.heap id = some o → Al n ex id ∧ ∀ j ∈ o.t.refs, Al n ex j
  tmps : ∀ t, ∀ id ∈ (st.tmps t).ids, Al n ex id

theorem inSp_iff {base id : Nat} : inSp base id = true ↔ base ≤ id ∧ id < base + 8 := by
  unfold inSp
  simp only [Bool.and_eq_true]
  constructor
  · rintro ⟨h1, h2⟩
    exact ⟨Nat.le_of_ble_eq_true h1, Nat.le_of_ble_eq_true h2⟩
  · rintro ⟨h1, h2⟩
    exact ⟨Nat.ble_eq_true_of_le h1, Nat.ble_eq_true_of_le h2⟩

section
variable {S : Start} {B : Base} {m n N : Nat} {w : World} {st : St} {a : Act} {P : Program} {C : Handler} {ops : Array Oper} {ex : List Nat} {sn : Seen} {v : AV} {h' : Option Heap} {Q : Exit → Act → World → Prop}

theorem core_ok (hC : HandlerOk P C) (h : At S B m N w st a) (D : DInv n ex st) (hx : sn.i ∉ ex) (hN : n + 64 * sn.i + 64 ≤ N) (hB : B.n ≤ n) (hS : ∀ j o, S.H j = some o → j < n) (hd : ∀ t, sn.o.dst = some t → t < m) (hi : ops[sn.i]? = some sn.o)
    (hc : Core P C ops n sn st v h') {K : Act → World → Prop} (hK : ∀ a' w', At S B m N w' (sn.app n st v h') a' → DInv n (sn.i :: ex) (sn.app n st v h') → K a' w') : wpOp P ops Q sn.i K a w := by
  unfold wpOp
  simp only [hi]
  obtain ⟨I, σ, own, loose, R, T, hP⟩ := h.ex
  cases hc with
  | skip hg ht hb hne hv =>
    rename_i j t want b
    have hbv := T.val t
    rw [hb] at hbv
    have hw : Region.wanted sn.o (yielded ops a.tmps) = false := by
      simp only [Region.wanted, hg, yield_of ht hbv.lb_inv]
      cases b <;> cases want <;> simp_all
    rw [hw]
    simp only [Bool.false_eq_true, if_false]
    have e : sn.app n st .any none = st.dst sn.o.dst .any := rfl
    rw [e] at hK
    refine hK _ _ (h.any hd) ⟨fun id o ho => ?_, fun t id hid => ?_⟩
    · have ho : st.heap id = some o := by cases e : sn.o.dst <;> rw [e] at ho <;> exact ho
      exact ⟨(D.objs id o ho).1.more, fun j hj => ((D.objs id o ho).2 j hj).more⟩
    · cases e : sn.o.dst with
      | none => rw [e] at hid; exact (D.tmps t id hid).more
      | some d =>
        rw [e] at hid
        simp only [St.dst, St.put] at hid
        split at hid
        · simp [AV.ids] at hid
        · exact (D.tmps t id hid).more
  | pure hg hv hop he hids =>
    rename_i v0
    have hw : Region.wanted sn.o (yielded ops a.tmps) = true := by
      cases hgu : sn.o.guard with
      | none => simp [Region.wanted, hgu]
      | some jw =>
        obtain ⟨j, want⟩ := jw
        obtain ⟨t, h1, h2⟩ := hg j want hgu
        have hbv := T.val t
        rw [h2] at hbv
        simp [Region.wanted, hgu, yield_of h1 hbv.lb_inv]
    rw [hw]
    simp only [if_true]
    refine .inl ?_
    have he2 : evOp P C sn.o.op sn.o.type st N (fun v H => some ((v, H) : AVH)) = some (v0, st.heap) := by
      rw [nh_eq P C sn.o.type st N hop]
      have := nh_nt P st hop AVH (fun v => some (v, st.heap))
      simp only at this
      rw [this]
      have he : nhOp P sn.o.op st.eval some = some v0 := he
      rw [he]; rfl
    refine (op_ok R T h.names he2).wp fun val w' hdid => ?_
    obtain ⟨av, I', σ', H', own', loose', e1, R', P', hval, hvids⟩ := hdid
    simp only [Option.some.injEq, Prod.mk.injEq] at e1
    obtain ⟨rfl, rfl⟩ := e1
    have hopAl : ∀ id ∈ opIds st sn.o, Al n ex id := fun id hid => by
      unfold opIds at hid
      obtain ⟨x, h1, h2⟩ := List.mem_flatMap.1 hid
      cases x with
      | tmp t => exact D.tmps t id h2
      | const cv => simp only [St.eval] at h2; rw [ofValue_ids] at h2; simp at h2
      | func f => simp [St.eval, AV.ids] at h2
      | global g => simp [St.eval, AV.ids] at h2
    have hAlN : ∀ id, Al n ex id → id ∈ opIds st sn.o → id < N := fun id _ hid => by
      unfold opIds at hid
      obtain ⟨x, h1, h2⟩ := List.mem_flatMap.1 hid
      cases x with
      | tmp t => exact T.ids t id h2
      | const cv => simp only [St.eval] at h2; rw [ofValue_ids] at h2; simp at h2
      | func f => simp [St.eval, AV.ids] at h2
      | global g => simp [St.eval, AV.ids] at h2
    have hInv : Inv S N w' I' σ' st.heap own' loose' := ⟨⟨R'.rel.imm, R'.rel.rep, R'.rel.nd, R'.rel.dj, R.rel.lt⟩, R'.kept, R'.owns, R'.lnd, R'.ldj, R'.lown, R'.hdl⟩
    have hheap : (sn.app n st (eagerV (isGuard ops sn.i) av) none).heap = st.heap := by rw [app_heap]; rfl
    have hvv : AvV w' I' σ' st.heap (eagerV (isGuard ops sn.i) av) val := by
      cases hg : isGuard ops sn.i with
      | false => exact hval
      | true =>
        cases av <;> first | exact hval | skip
        rename_i t x
        cases t <;> first | exact hval | skip
        have := hval.bool_inv
        subst this
        exact avv_lb
    have hTp := T.pres P' (Nat.le_refl _)
    have hvAl : ∀ id ∈ (eagerV (isGuard ops sn.i) av).ids, Al n ex id ∧ id < N := fun id hid => ⟨hopAl id (hids id (eagerV_ids _ _ id hid)), hAlN id (hopAl id (hids id (eagerV_ids _ _ id hid))) (hids id (eagerV_ids _ _ id hid))⟩
    refine hK _ _ ⟨⟨I', σ', own', loose', by rw [hheap]; exact hInv, ⟨fun t => ?_, fun t id hid => ?_⟩, by rw [hheap]; exact hP.trans (P'.less h.le)⟩, h.le, h.names, ?_, ?_⟩ ⟨fun id o ho => ?_, fun t id hid => ?_⟩
    · rw [hheap, app_tmps]
      by_cases e : sn.o.dst = some t
      · rw [if_pos e, e, put_getD _ _ _ _ (by rw [h.size]; exact hd t e), if_pos rfl]
        exact hvv
      · rw [if_neg e]
        have hput : (a.put sn.o.dst val).tmps.getD t undef = a.tmps.getD t undef := by
          cases ed : sn.o.dst with
          | none => rfl
          | some d => rw [put_getD _ _ _ _ (by rw [h.size]; exact hd d ed), if_neg]; intro hh; subst hh; exact e ed
        rw [hput]
        exact hTp.val t
    · rw [app_tmps] at hid
      split at hid
      · exact (hvAl id hid).2
      · exact T.ids t id hid
    · cases sn.o.dst <;> exact h.defers
    · cases sn.o.dst <;> simp [Act.put, h.size]
    · rw [hheap] at ho
      exact ⟨(D.objs id o ho).1.more, fun j hj => ((D.objs id o ho).2 j hj).more⟩
    · rw [app_tmps] at hid
      split at hid
      · exact (hvAl id hid).1.more
      · exact (D.tmps t id hid).more
  | run hg hv hok hop he hm hids hn =>
    rename_i v0 H m0
    have hw : Region.wanted sn.o (yielded ops a.tmps) = true := by
      cases hgu : sn.o.guard with
      | none => simp [Region.wanted, hgu]
      | some jw =>
        obtain ⟨j, want⟩ := jw
        obtain ⟨t, h1, h2⟩ := hg j want hgu
        have hbv := T.val t
        rw [h2] at hbv
        simp [Region.wanted, hgu, yield_of h1 hbv.lb_inv]
    rw [hw]
    simp only [if_true]
    refine .inl ?_
    generalize hbase : n + 64 * sn.i = base at *
    have hbn : n ≤ base := by omega
    -- what is seen
    have hvis : ∀ id ∈ sn.vis, id < base ∧ ∀ o, st.heap id = some o → ∀ j ∈ o.t.refs, j < base := fun id hid => by
      unfold visOk at hok
      rw [List.all_eq_true] at hok
      have := hok id hid
      simp only [Bool.and_eq_true] at this
      refine ⟨Nat.le_of_ble_eq_true this.1, fun o ho j hj => ?_⟩
      have h2 := this.2
      rw [ho] at h2
      simp only [List.all_eq_true] at h2
      exact Nat.le_of_ble_eq_true (h2 j hj)
    have hvisAl : ∀ id ∈ sn.vis, Al n ex id := fun id hid => by
      rw [hv] at hid
      refine reach_from (fun id o ho => (D.objs id o ho).2) 8 _ (fun id hid => ?_) id hid
      rw [mem_uniq] at hid
      unfold opIds at hid
      obtain ⟨x, h1, h2⟩ := List.mem_flatMap.1 hid
      cases x with
      | tmp t => exact D.tmps t id h2
      | const cv => simp only [St.eval] at h2; rw [ofValue_ids] at h2; simp at h2
      | func f => simp [St.eval, AV.ids] at h2
      | global g => simp [St.eval, AV.ids] at h2
    let stR := st.only (opTmps sn.o) sn.vis
    have hR1 : ∀ id o, stR.heap id = some o → id ∈ sn.vis ∧ st.heap id = some o := fun id o ho => by
      simp only [stR, St.only] at ho
      obtain ⟨h1, h2⟩ := ite_some ho
      exact ⟨by simpa using h1, h2⟩
    have hR2 : ∀ id, id ∈ sn.vis → stR.heap id = st.heap id := fun id hid => by simp [stR, St.only, hid]
    have hR3 : ∀ id, id ∉ sn.vis → stR.heap id = none := fun id hid => by simp [stR, St.only, hid]
    let Sx : Start := ⟨w, I, σ, fun _ => none, fun b => ∃ id o, st.heap id = some o ∧ id ∈ sn.vis ∧ b ∈ own id⟩
    have RR : Inv Sx base w I σ stR.heap own [] := by
      refine ⟨⟨R.rel.imm, fun id o ho => R.rel.rep id o (hR1 id o ho).2, fun id o ho => R.rel.nd id o (hR1 id o ho).2, fun i j oi oj hij hi hj => R.disj hij (hR1 i oi hi).2 (hR1 j oj hj).2, fun id o ho => ?_⟩, Kept.refl _ _ _, fun id o ho b hb => ?_, by simp, by simp, by simp, fun _ _ _ h0 => by simp [Sx] at h0⟩
      · obtain ⟨h1, h2⟩ := hR1 id o ho
        exact ⟨(hvis id h1).1, (hvis id h1).2 o h2⟩
      · obtain ⟨h1, h2⟩ := hR1 id o ho
        exact .inl ⟨id, o, h2, h1, hb⟩
    have hopvis : ∀ t ∈ opTmps sn.o, ∀ id ∈ (st.tmps t).ids, id ∈ sn.vis := fun t ht id hid => by
      rw [hv]
      refine reach_sub _ 8 _ id ?_
      rw [mem_uniq]
      unfold opTmps at ht
      obtain ⟨x, h1, h2⟩ := List.mem_filterMap.1 ht
      cases x <;> simp at h2
      subst h2
      exact List.mem_flatMap.2 ⟨_, h1, hid⟩
    have TR : TRel base w I σ stR a := by
      refine ⟨fun t => ?_, fun t id hid => ?_⟩
      · simp only [stR, St.only]
        split
        · exact (T.val t).on (Imm.le_refl _) fun id _ ob' hob' => ⟨ob', (hR1 id ob' hob').2, ObjPres.refl _ _ _ _⟩
        · exact avv_any
      · simp only [stR, St.only] at hid
        split at hid
        · rename_i ht; exact (hvis id (hopvis t (by simpa using ht) id hid)).1
        · simp [AV.ids] at hid
    refine (o_ok hC RR TR (fun j o h0 => by simp [Sx] at h0) he).wp fun val w' hdid => ?_
    obtain ⟨n', av, I', σ', H', own', loose', hn', e1, R', P', hval, hvids⟩ := hdid
    simp only [Option.some.injEq, Prod.mk.injEq] at e1
    obtain ⟨rfl, rfl, rfl⟩ := e1
    have hout : ∀ id, Al n ex id → ¬ (base ≤ id ∧ id < base + 64) := fun id hal => by have := hal.out hx; rw [hbase] at this; exact this
    let σm : Nat → Value := fun id => if base ≤ id ∧ id < base + 64 then σ' id else σ id
    have hσlt : ∀ id, id < base → σm id = σ id := fun id hid => if_neg (by omega)
    have hσsp : ∀ id, inSp base id = true → σm id = σ' id := fun id hid => by
      rw [inSp_iff] at hid
      exact if_pos ⟨hid.1, by omega⟩
    have hσal : ∀ id, Al n ex id → σm id = σ id := fun id hal => if_neg (by have := hal.out hx; rw [hbase] at this; exact this)
    have hstays : ∀ id, id ∈ sn.vis → stays stR.heap H' id = true → σ' id = σ id := fun id hid hs => by
      unfold stays at hs
      split at hs
      · rename_i o o' h1 h2
        exact P'.hdl id o o' (hvis id hid).1 h1 h2 hs
      · simp at hs
    have hrdH : opRd sn.o.op = true → H' = stR.heap := fun hr => evO_rd hr hop he
    have hHsp : ∀ id, base + 8 ≤ id → id < base + 64 → st.heap id = none := fun id h1 h2 => by
      cases e : st.heap id with
      | none => rfl
      | some o => exact absurd ⟨by omega, h2⟩ (hout id (D.objs id o e).1)
    have hnone : ∀ id, base ≤ id → id < base + 64 → st.heap id = none := fun id h1 h2 => by
      cases e : st.heap id with
      | none => rfl
      | some o => exact absurd ⟨h1, h2⟩ (hout id (D.objs id o e).1)
    have hnewok : opRd sn.o.op = false → newOk stR.heap H' sn.vis base = true := fun hr => hn hr
    -- what is known of what is seen, behind
    have F1 : ∀ id ∈ sn.vis, ∀ o, H' id = some o → σ' id = σ id := fun id hid o ho => by
      cases hr : opRd sn.o.op with
      | true =>
        refine hstays id hid ?_
        have e := hrdH hr
        rw [e] at ho
        unfold stays
        rw [ho, e, ho]
        simp [Obj.ok]
      | false =>
        have := hnewok hr
        unfold newOk at this
        simp only [Bool.and_eq_true, List.all_eq_true] at this
        have h2 := this.1 id hid
        rw [ho] at h2
        simp only [Bool.and_eq_true] at h2
        exact hstays id hid h2.1
    have F23 : ∀ id, (id ∈ sn.vis ∨ inSp base id = true) → ∀ o, H' id = some o → ∀ j ∈ o.t.refs, σm j = σ' j ∧ Al n (sn.i :: ex) j := fun id hid o ho j hj => by
      cases hr : opRd sn.o.op with
      | true =>
        have e := hrdH hr
        rw [e] at ho
        obtain ⟨h1, h2⟩ := hR1 id o ho
        have hjb := (hvis id h1).2 o h2 j hj
        refine ⟨?_, ((D.objs id o h2).2 j hj).more⟩
        rw [hσlt j hjb]
        cases hjn : stR.heap j with
        | none => exact (P'.sig j hjb hjn).symm
        | some oj =>
          refine (P'.hdl j oj oj hjb hjn (by rw [e]; exact hjn) ?_).symm
          simp [Obj.ok]
      | false =>
        have hno := hnewok hr
        unfold newOk at hno
        simp only [Bool.and_eq_true, List.all_eq_true] at hno
        have fin : (inSp base j || (sn.vis.contains j && stays stR.heap H' j)) = true → σm j = σ' j ∧ Al n (sn.i :: ex) j := fun hk => by
          simp only [Bool.or_eq_true, Bool.and_eq_true, List.contains_iff_mem] at hk
          rcases hk with hk | ⟨hk1, hk2⟩
          · refine ⟨hσsp j hk, .inr ⟨sn.i, by simp, ?_⟩⟩
            rw [inSp_iff] at hk
            rw [hbase]; exact ⟨hk.1, by omega⟩
          · exact ⟨by rw [hσlt j (hvis j hk1).1, hstays j hk1 hk2], (hvisAl j hk1).more⟩
        rcases hid with hid | hid
        · have h2 := hno.1 id hid
          rw [ho] at h2
          simp only [Bool.and_eq_true, List.all_eq_true] at h2
          exact fin (h2.2 j hj)
        · rw [inSp_iff] at hid
          have hmem : id - base ∈ [0, 1, 2, 3, 4, 5, 6, 7] := by
            have : id - base < 8 := by omega
            generalize id - base = d at this
            match d, this with
            | 0, _ | 1, _ | 2, _ | 3, _ | 4, _ | 5, _ | 6, _ | 7, _ => simp
          have h2 := hno.2 (id - base) hmem
          rw [show base + (id - base) = id by omega, ho] at h2
          simp only [List.all_eq_true] at h2
          exact fin (h2 j hj)
    -- the objects behind
    have hheap : (sn.app n st (eagerV (isGuard ops sn.i) av) (if opRd sn.o.op then none else some H')).heap = mergeH st.heap H' sn.vis base := by
      rw [app_heap]
      cases hr : opRd sn.o.op with
      | true =>
        simp only [if_true, Seen.heap]
        funext id
        unfold mergeH
        split
        · rename_i hk
          rw [hrdH hr]
          by_cases hin : id ∈ sn.vis
          · exact (hR2 id hin).symm
          · rw [hR3 id hin]
            simp only [Bool.or_eq_true, List.contains_iff_mem] at hk
            have := hk.resolve_left hin
            rw [inSp_iff] at this
            exact hnone id this.1 (by omega)
        · rfl
      | false => simp only [Bool.false_eq_true, if_false, Seen.heap, hbase]
    have cases_ : ∀ id o, mergeH st.heap H' sn.vis base id = some o → ((id ∈ sn.vis ∨ inSp base id = true) ∧ H' id = some o) ∨ (id ∉ sn.vis ∧ inSp base id = false ∧ st.heap id = some o) := fun id o ho => by
      unfold mergeH at ho
      split at ho
      · rename_i hk
        simp only [Bool.or_eq_true, List.contains_iff_mem] at hk
        exact .inl ⟨hk, ho⟩
      · rename_i hk
        simp only [Bool.or_eq_true, List.contains_iff_mem, not_or, Bool.not_eq_true] at hk
        exact .inr ⟨hk.1, hk.2, ho⟩
    have hσarea : ∀ id o, (id ∈ sn.vis ∨ inSp base id = true) → H' id = some o → σm id = σ' id := fun id o hid ho => by
      rcases hid with hid | hid
      · rw [hσlt id (hvis id hid).1, F1 id hid o ho]
      · exact hσsp id hid
    have hSxlt : ∀ b, Sx.O b → b < w.heap.size := fun b ⟨id, o, h1, h2, h3⟩ => R.lt_size h1 b h3
    have hfree : ∀ id o, id ∉ sn.vis → st.heap id = some o → ∀ b ∈ own id, ¬ Sx.O b := fun id o hid ho b hb ⟨id2, o2, h1, h2, h3⟩ =>
      R.disj (fun e => hid (by rw [e]; exact h2)) ho h1 b hb h3
    have hblk : ∀ id o, id ∉ sn.vis → st.heap id = some o → ∀ b ∈ own id, w'.heap[b]? = w.heap[b]? ∧ ∀ k, I' b k = I b k := fun id o hid ho b hb =>
      R'.kept.blk b (R.lt_size ho b hb) (hfree id o hid ho b hb)
    have hSO : ∀ b, Sx.O b ∨ w.heap.size ≤ b → S.O b ∨ S.w.heap.size ≤ b := fun b hb => by
      rcases hb with ⟨id, o, h1, h2, h3⟩ | hb
      · exact R.owns id o h1 b h3
      · exact .inr (Nat.le_trans R.kept.size hb)
    let ownm : Own := fun id => if sn.vis.contains id || inSp base id then own' id else own id
    have hown1 : ∀ id, (id ∈ sn.vis ∨ inSp base id = true) → ownm id = own' id := fun id hid => by
      simp only [ownm]; rw [if_pos]; simpa using hid
    have hown2 : ∀ id, id ∉ sn.vis → inSp base id = false → ownm id = own id := fun id h1 h2 => by simp [ownm, h1, h2]
    have hle : I.le I' := R'.kept.le
    have hInv : Inv S N w' I' σm (mergeH st.heap H' sn.vis base) ownm [] := by
      refine ⟨⟨R'.rel.imm, fun id o ho => ?_, fun id o ho => ?_, fun i j oi oj hij hi hj b hb hb' => ?_, fun id o ho => ?_⟩, R.kept.trans R'.kept (fun b hb => hSO b (.inl hb)), fun id o ho b hb => ?_, by simp, by simp, by simp, fun id s0 o hs0 ho hok2 => ?_⟩
      · rcases cases_ id o ho with ⟨h1, h2⟩ | ⟨h1, h2, h3⟩
        · rw [hown1 id h1, hσarea id o h1 h2]
          exact (R'.rel.rep id o h2).frame (Imm.le_refl _) (fun b _ => ⟨rfl, fun _ => rfl⟩) fun j hj => (F23 id h1 o h2 j hj).1
        · rw [hown2 id h1 h2, hσal id (D.objs id o h3).1]
          exact (R.rel.rep id o h3).frame hle (hblk id o h1 h3) fun j hj => hσal j ((D.objs id o h3).2 j hj)
      · rcases cases_ id o ho with ⟨h1, h2⟩ | ⟨h1, h2, h3⟩
        · rw [hown1 id h1]; exact R'.rel.nd id o h2
        · rw [hown2 id h1 h2]; exact R.rel.nd id o h3
      · rcases cases_ i oi hi with ⟨h1, h2⟩ | ⟨h1, h2, h3⟩ <;> rcases cases_ j oj hj with ⟨g1, g2⟩ | ⟨g1, g2, g3⟩
        · rw [hown1 i h1] at hb; rw [hown1 j g1] at hb'; exact R'.disj hij h2 g2 b hb hb'
        · rw [hown1 i h1] at hb; rw [hown2 j g1 g2] at hb'
          rcases R'.owns i oi h2 b hb with e | e
          · exact hfree j oj g1 g3 b hb' e
          · have := R.lt_size g3 b hb'; exact absurd e (by show ¬ w.heap.size ≤ b; omega)
        · rw [hown2 i h1 h2] at hb; rw [hown1 j g1] at hb'
          rcases R'.owns j oj g2 b hb' with e | e
          · exact hfree i oi h1 h3 b hb e
          · have := R.lt_size h3 b hb; exact absurd e (by show ¬ w.heap.size ≤ b; omega)
        · rw [hown2 i h1 h2] at hb; rw [hown2 j g1 g2] at hb'; exact R.disj hij h3 g3 b hb hb'
      · rcases cases_ id o ho with ⟨h1, h2⟩ | ⟨h1, h2, h3⟩
        · have := R'.rel.lt id o h2
          exact ⟨by omega, fun j hj => by have := this.2 j hj; omega⟩
        · exact R.rel.lt id o h3
      · rcases cases_ id o ho with ⟨h1, h2⟩ | ⟨h1, h2, h3⟩
        · rw [hown1 id h1] at hb; exact hSO b (R'.owns id o h2 b hb)
        · rw [hown2 id h1 h2] at hb; exact R.owns id o h3 b hb
      · rcases cases_ id o ho with ⟨h1, h2⟩ | ⟨h1, h2, h3⟩
        · have hidn := hS id s0 hs0
          obtain ⟨ob, g1, g2⟩ := P'.obj id o (by omega) h2
          rw [hσlt id (by omega)]
          exact R.hdl id s0 ob hs0 (hR1 id ob g1).2 (g2.ok true [] 0 (Nat.zero_le _) hok2)
        · rw [hσal id (D.objs id o h3).1]; exact R.hdl id s0 o hs0 h3 hok2
    have hobj : ∀ id, Al n ex id → ∀ ob', mergeH st.heap H' sn.vis base id = some ob' → ∃ ob, st.heap id = some ob ∧ ObjPres w σ ob w' σm ob' id := fun id hal ob' hob' => by
      rcases cases_ id ob' hob' with ⟨h1, h2⟩ | ⟨h1, h2, h3⟩
      · rcases h1 with h1 | h1
        · obtain ⟨ob, g1, g2⟩ := P'.obj id ob' (hvis id h1).1 h2
          exact ⟨ob, (hR1 id ob g1).2, g2.sigs rfl (hσarea id ob' (.inl h1) h2)⟩
        · rw [inSp_iff] at h1
          exact absurd ⟨h1.1, by omega⟩ (hout id hal)
      · exact ⟨ob', h3, ObjPres.same (R.rel.rep id ob' h3) (fun b hb => (hblk id ob' h1 h3 b hb).1) (hσal id hal)⟩
    have hPres : Pres n w I σ st.heap w' I' σm (mergeH st.heap H' sn.vis base) := by
      refine ⟨hle, fun id ob' hid hob' => hobj id (.inl hid) ob' hob', fun id hid _ => hσlt id (by omega), fun id ob ob' hid _ _ _ => hσlt id (by omega)⟩
    have hvA : ∀ id ∈ (eagerV (isGuard ops sn.i) av).ids, id ∈ sn.vis ∨ inSp base id = true := fun id hid => hids id (eagerV_ids _ _ id hid)
    have hvv : AvV w' I' σm (mergeH st.heap H' sn.vis base) (eagerV (isGuard ops sn.i) av) val := by
      have h1 : AvV w' I' σm (mergeH st.heap H' sn.vis base) av val := by
        refine hval.on (Imm.le_refl _) fun id hid ob' hob' => ?_
        have ha := hids id hid
        have hm : mergeH st.heap H' sn.vis base id = H' id := by
          unfold mergeH; rw [if_pos]; simpa using ha
        rw [hm] at hob'
        exact ⟨ob', hob', (ObjPres.refl w' σ' ob' id).sigs rfl (hσarea id ob' ha hob')⟩
      cases hg : isGuard ops sn.i with
      | false => exact h1
      | true =>
        cases av <;> first | exact h1 | skip
        rename_i t x
        cases t <;> first | exact h1 | skip
        have := h1.bool_inv
        subst this
        exact avv_lb
    refine hK _ _ ⟨⟨I', σm, ownm, [], by rw [hheap]; exact hInv, ⟨fun t => ?_, fun t id hid => ?_⟩, by rw [hheap]; exact hP.trans (hPres.less hB)⟩, h.le, h.names, ?_, ?_⟩ ⟨fun id o ho => ?_, fun t id hid => ?_⟩
    · rw [hheap, app_tmps]
      by_cases e : sn.o.dst = some t
      · rw [if_pos e, e, put_getD _ _ _ _ (by rw [h.size]; exact hd t e), if_pos rfl]
        exact hvv
      · rw [if_neg e]
        have hput : (a.put sn.o.dst val).tmps.getD t undef = a.tmps.getD t undef := by
          cases ed : sn.o.dst with
          | none => rfl
          | some d => rw [put_getD _ _ _ _ (by rw [h.size]; exact hd d ed), if_neg]; intro hh; subst hh; exact e ed
        rw [hput]
        exact (T.val t).on hle fun id hid ob' hob' => hobj id (D.tmps t id hid) ob' hob'
    · rw [app_tmps] at hid
      split at hid
      · rcases hvA id hid with h1 | h1
        · have := (hvis id h1).1; omega
        · rw [inSp_iff] at h1; omega
      · exact T.ids t id hid
    · cases sn.o.dst <;> exact h.defers
    · cases sn.o.dst <;> simp [Act.put, h.size]
    · rw [hheap] at ho
      rcases cases_ id o ho with ⟨h1, h2⟩ | ⟨h1, h2, h3⟩
      · refine ⟨?_, fun j hj => (F23 id h1 o h2 j hj).2⟩
        rcases h1 with h1 | h1
        · exact (hvisAl id h1).more
        · rw [inSp_iff] at h1; exact .inr ⟨sn.i, by simp, by omega, by omega⟩
      · exact ⟨(D.objs id o h3).1.more, fun j hj => ((D.objs id o h3).2 j hj).more⟩
    · rw [app_tmps] at hid
      split at hid
      · rcases hvA id hid with h1 | h1
        · exact (hvisAl id h1).more
        · rw [inSp_iff] at h1; exact .inr ⟨sn.i, by simp, by omega, by omega⟩
      · exact (D.tmps t id hid).more
end
end Go.Ev

namespace Go.Ev

theorem mask_ok {acc : List Nat} {d : Nat} : ∀ (l : List Nat) (m0 : Nat), (l.foldl (fun m j => m ||| (1 <<< j) ||| acc.getD j 0) m0).testBit d = true → m0.testBit d = true ∨ ∃ j ∈ l, j = d ∨ (acc.getD j 0).testBit d = true
  | [], m0, h => .inl h
  | j :: l, m0, h => by
    rcases mask_ok l _ h with h1 | ⟨k, h1, h2⟩
    · rw [Nat.testBit_or, Nat.testBit_or, Bool.or_eq_true, Bool.or_eq_true] at h1
      rcases h1 with (h1 | h1) | h1
      · exact .inl h1
      · refine .inr ⟨j, by simp, .inl ?_⟩
        rw [Nat.testBit_shiftLeft] at h1
        simp only [Bool.and_eq_true, decide_eq_true_eq, ge_iff_le] at h1
        have h3 := h1.2
        rw [Nat.testBit_one_eq_true_iff_self_eq_zero] at h3
        omega
      · exact .inr ⟨j, by simp, .inr h1⟩
    · exact .inr ⟨k, by simp [h1], h2⟩

/-- Who is behind whom. -/
def Behind (ops : List Oper) (cls : List Nat) : Prop :=
  ∀ i d, (cls.getD i 0).testBit d = true → ∃ o, ops[i]? = some o ∧ ∃ e ∈ edges o, e = d ∨ (e < i ∧ (cls.getD e 0).testBit d = true)

theorem closes_ok : ∀ (l : List Oper) (acc : List Nat) (pre : List Oper), pre.length = acc.length → Behind (pre ++ l) acc → Behind (pre ++ l) (closes l acc)
  | [], acc, pre, _, h => h
  | o :: l, acc, pre, hl, h => by
    have := closes_ok l (acc ++ [(edges o).foldl (fun m j => m ||| (1 <<< j) ||| acc.getD j 0) 0]) (pre ++ [o]) (by simp [hl])
    simp only [List.append_assoc, List.singleton_append] at this
    refine this fun i d hd => ?_
    have hget : ∀ i, (acc ++ [(edges o).foldl (fun m j => m ||| (1 <<< j) ||| acc.getD j 0) 0]).getD i 0 = if i = acc.length then (edges o).foldl (fun m j => m ||| (1 <<< j) ||| acc.getD j 0) 0 else acc.getD i 0 := fun i => by
      rw [List.getD_eq_getElem?_getD, List.getD_eq_getElem?_getD]
      by_cases e : i = acc.length
      · subst e; simp
      · rw [if_neg e]
        by_cases hlt : i < acc.length
        · rw [List.getElem?_append_left hlt]
        · rw [List.getElem?_append_right (by omega), List.getElem?_eq_none (by simp; omega), List.getElem?_eq_none (by omega)]
    rw [hget] at hd
    split at hd
    · rename_i e
      subst e
      rcases mask_ok _ _ hd with h1 | ⟨j, h1, h2⟩
      · simp at h1
      · refine ⟨o, by rw [← hl]; simp, j, h1, ?_⟩
        rcases h2 with h2 | h2
        · exact .inl h2
        · have hj : j < acc.length := by
            rcases Nat.lt_or_ge j acc.length with hj | hj
            · exact hj
            · rw [List.getD_eq_getElem?_getD, List.getElem?_eq_none hj] at h2; simp at h2
          refine .inr ⟨hj, ?_⟩
          rw [hget, if_neg (by omega)]
          exact h2
    · obtain ⟨o', h1, e, h2, h3⟩ := h i d hd
      refine ⟨o', h1, e, h2, ?_⟩
      rcases h3 with h3 | ⟨h3, h4⟩
      · exact .inl h3
      · have hi : i < acc.length := by
          rcases Nat.lt_or_ge i acc.length with hi | hi
          · exact hi
          · rw [List.getD_eq_getElem?_getD, List.getElem?_eq_none hi] at hd; simp at hd
        exact .inr ⟨h3, by rw [hget, if_neg (by omega)]; exact h4⟩

theorem behind_nil (ops : List Oper) : Behind ops [] := fun i d h => by simp at h

theorem getD_any {l : Array Bool} {j : Nat} (h : j < l.size) (d d' : Bool) : l.getD j d = l.getD j d' := by
  simp [Array.getD_eq_getD_getElem?, h]

theorem edge_mem {o : Oper} {e : Edge} (h : e ∈ o.after) (hb : Region.binds .any e = true) : e.on ∈ edges o := by
  unfold edges
  rw [List.mem_map]
  exact ⟨e, by rw [List.mem_filter]; exact ⟨by simpa using h, hb⟩, rfl⟩
theorem mem_edge {o : Oper} {j : Nat} (h : j ∈ edges o) : ∃ e ∈ o.after, Region.binds .any e = true ∧ e.on = j := by
  unfold edges at h
  rw [List.mem_map] at h
  obtain ⟨e, h1, h2⟩ := h
  rw [List.mem_filter] at h1
  exact ⟨e, by simpa using h1.1, h1.2, h2⟩

section
variable {S : Start} {B : Base} {m n N : Nat} {P : Program} {C : Handler} {ops : Array Oper} {Q : Exit → Act → World → Prop}

/-- Whoever is behind one whose edges are listed is listed. -/
theorem behind_listed {cls : List Nat} {listed : Array Bool} (hb : Behind ops.toList cls) (hdc : ∀ j, listed.getD j false = true → ∀ o, ops[j]? = some o → ∀ e ∈ edges o, listed.getD e false = true) :
    ∀ (i : Nat), (∀ o, ops[i]? = some o → ∀ e ∈ edges o, listed.getD e false = true) → ∀ d, (cls.getD i 0).testBit d = true → listed.getD d false = true := by
  intro i
  induction i using Nat.strongRecOn with
  | _ i ih =>
    intro hi d hd
    obtain ⟨o, h1, e, h2, h3⟩ := hb i d hd
    have h1' : ops[i]? = some o := by simpa using h1
    rcases h3 with rfl | ⟨h3, h4⟩
    · exact hi o h1' e h2
    · exact ih e h3 (hdc e (hi o h1' e h2)) d h4

theorem any_ok (hC : HandlerOk P C) {cls : List Nat} (hcls : Behind ops.toList cls) (hac : ∀ j o, ops[j]? = some o → ∀ e ∈ edges o, e < j) (hN : ∀ i, i < ops.size → n + 64 * i + 64 ≤ N) (hB : B.n ≤ n) (hS : ∀ j o, S.H j = some o → j < n)
    (hd : ∀ o ∈ ops.toList, ∀ t, o.dst = some t → t < m) {stEnd : St} (hQ : ∀ a' w', At S B m N w' stEnd a' → Q .normal a' w') : ∀ (len : Nat) (rs : List Seen) (ex : List Nat) (listed : Array Bool) (st : St) (w : World) (a : Act), rs.length = len →
    Runs P C ops n rs st stEnd → At S B m N w st a → DInv n ex st → listed.size = ops.size → (∀ j, j < ops.size → (listed.getD j true = false ↔ ∃ s ∈ rs, s.i = j)) → (∀ s ∈ rs, ops[s.i]? = some s.o) →
    rs.Pairwise (fun s x => s.i < x.i ∧ ((cls.getD x.i 0).testBit s.i = true ∨ commute ops n s x = true)) → (∀ j, listed.getD j false = true → ∀ o, ops[j]? = some o → ∀ e ∈ edges o, listed.getD e false = true) → (∀ s ∈ rs, s.i ∉ ex) →
    wpAny P .any ops Q len listed a w := by
  intro len
  induction len with
  | zero =>
    intro rs ex listed st w a hlen hruns hA hD hsz h1 h2 h3 h4 h5
    have : rs = [] := List.length_eq_zero_iff.1 hlen
    subst this
    refine ⟨?_, ?_⟩
    · cases hr : Region.ready .any ops listed with
      | nil => rfl
      | cons j r =>
        have hj : j ∈ Region.ready .any ops listed := by rw [hr]; simp
        obtain ⟨k1, o, k2, _⟩ := mem_ready.1 hj
        have hlt : j < ops.size := (Array.getElem?_eq_some_iff.1 k2).1
        obtain ⟨s, hs, _⟩ := (h1 j hlt).1 k1
        simp at hs
    · cases hruns; exact hQ a w hA
  | succ len ih =>
    intro rs ex listed st w a hlen hruns hA hD hsz h1 h2 h3 h4 h5
    have hin : ∀ s ∈ rs, s.i < ops.size := fun s hs => (Array.getElem?_eq_some_iff.1 (h2 s hs)).1
    refine ⟨fun hempty => ?_, fun i hi => ?_⟩
    · cases rs with
      | nil => simp at hlen
      | cons s0 rest =>
        exfalso
        have hs0 := hin s0 (by simp)
        have : s0.i ∈ Region.ready .any ops listed := by
          refine mem_ready.2 ⟨(h1 s0.i hs0).2 ⟨s0, by simp, rfl⟩, s0.o, h2 s0 (by simp), fun e he hbd => ?_⟩
          have hlt := hac s0.i s0.o (h2 s0 (by simp)) e.on (edge_mem he hbd)
          have hsz' : e.on < listed.size := by omega
          cases hl : listed.getD e.on false with
          | true => rfl
          | false =>
            rw [getD_any hsz' false true] at hl
            obtain ⟨s, hs, hse⟩ := (h1 e.on (by omega)).1 hl
            rcases List.mem_cons.1 hs with rfl | hs
            · omega
            · have := (List.rel_of_pairwise_cons h3 hs).1; omega
        rw [hempty] at this
        simp at this
    · obtain ⟨k1, o, k2, k3⟩ := mem_ready.1 hi
      have hilt : i < ops.size := (Array.getElem?_eq_some_iff.1 k2).1
      obtain ⟨s, hs, rfl⟩ := (h1 i hilt).1 k1
      have ho : o = s.o := by have := h2 s hs; rw [k2] at this; injection this
      subst ho
      have hedge : ∀ o, ops[s.i]? = some o → ∀ e ∈ edges o, listed.getD e false = true := fun o ho e he => by
        rw [k2] at ho
        injection ho with ho
        subst ho
        obtain ⟨e', e1, e2, rfl⟩ := mem_edge he
        exact k3 e' e1 e2
      obtain ⟨l1, l2, rfl⟩ := List.append_of_mem hs
      have hp := List.pairwise_append.1 h3
      have hp2 := List.pairwise_cons.1 hp.2.1
      have hcomm : ∀ d ∈ l1, commute ops n d s = true ∧ d.i ≠ s.i := fun d hd' => by
        have hrel := hp.2.2 d hd' s (by simp)
        refine ⟨hrel.2.resolve_left fun hbit => ?_, by have := hrel.1; omega⟩
        have hl := behind_listed hcls h4 s.i hedge d.i hbit
        have hdl := (h1 d.i (hin d (by simp [hd']))).2 ⟨d, by simp [hd'], rfl⟩
        rw [getD_any (by rw [hsz]; exact hin d (by simp [hd'])) true false, hl] at hdl
        simp at hdl
      obtain ⟨st1, ⟨v, h', hcore, rfl⟩, hrun2⟩ := Runs.first hcomm hruns
      refine core_ok hC hA hD (h5 s hs) (hN s.i hilt) hB hS (hd s.o (by have := List.mem_of_getElem? (show ops.toList[s.i]? = some s.o by simpa using k2); exact this)) k2 hcore fun a' w' hA' hD' => ?_
      have hne : ∀ x ∈ l1 ++ l2, x.i ≠ s.i := fun x hx => by
        rcases List.mem_append.1 hx with hx | hx
        · exact (hcomm x hx).2
        · have := (hp2.1 x hx).1; omega
      have hmem : ∀ x ∈ l1 ++ l2, x ∈ l1 ++ s :: l2 := fun x hx => by
        rcases List.mem_append.1 hx with hx | hx <;> simp [hx]
      refine ih (l1 ++ l2) (s.i :: ex) (listed.setIfInBounds s.i true) _ w' a' (by simp at hlen ⊢; omega) hrun2 hA' hD' (by simp [hsz]) (fun j hj => ?_) (fun x hx => h2 x (hmem x hx)) ?_ (fun j hj o ho e he => ?_) (fun x hx hex => ?_)
      · by_cases e : j = s.i
        · subst e
          constructor
          · intro hh
            rw [getD_any (by simp [hsz, hj]) true false] at hh
            simp [Array.getD_eq_getD_getElem?, hsz, hj] at hh
          · rintro ⟨x, hx, hxi⟩
            exact absurd hxi (hne x hx)
        · rw [getD_set_ne true (Ne.symm e), h1 j hj]
          constructor
          · rintro ⟨x, hx, rfl⟩
            refine ⟨x, ?_, rfl⟩
            rcases List.mem_append.1 hx with hx | hx
            · simp [hx]
            · rcases List.mem_cons.1 hx with rfl | hx
              · exact absurd rfl e
              · simp [hx]
          · rintro ⟨x, hx, rfl⟩
            exact ⟨x, hmem x hx, rfl⟩
      · exact List.pairwise_append.2 ⟨hp.1, hp2.2, fun x hx y hy => hp.2.2 x hx y (by simp [hy])⟩
      · refine getD_set_true ?_
        by_cases ej : j = s.i
        · subst ej; exact hedge o ho e he
        · rw [getD_set_ne false (Ne.symm ej)] at hj
          exact h4 j hj o ho e he
      · rcases List.mem_cons.1 hex with hex | hex
        · exact hne x hx hex
        · exact h5 x (hmem x hx) hex

theorem At.drew {w : World} {st : St} {a : Act} (h : At S B m n w st a) : At S B m n { w with drawn := w.drawn + 1 } st a := by
  obtain ⟨I, σ, own, loose, R, T, hP⟩ := h.ex
  have hPres : Pres n w I σ st.heap { w with drawn := w.drawn + 1 } I σ st.heap :=
    ⟨Imm.le_refl _, fun id ob' hid hob' => ⟨ob', hob', ObjPres.same (R.rel.rep id ob' hob') (fun _ _ => rfl) rfl⟩, fun _ _ _ => rfl, fun _ _ _ _ _ _ _ => rfl⟩
  refine ⟨⟨I, σ, own, loose, ⟨⟨R.rel.imm, fun id o ho => (R.rel.rep id o ho).frame (Imm.le_refl _) (fun _ _ => ⟨rfl, fun _ => rfl⟩) (fun _ _ => rfl), R.rel.nd, R.rel.dj, R.rel.lt⟩, ⟨R.kept.os, R.kept.tape, R.kept.output, R.kept.size, R.kept.blk, R.kept.le⟩, R.owns, R.lnd, R.ldj, R.lown, R.hdl⟩, ?_, hP.trans (hPres.less h.le)⟩, h.le, h.names, h.defers, h.size⟩
  exact T.pres hPres (Nat.le_refl _)

theorem draw_ok {C0 : Handler} (hC : HandlerOk P C0) (hnt : HandlerNt C0) (hmix : P.follows .mixedOrders = true) : DrawOk P C0 := by
  intro m id ops hd R S B n w st a k r Q h he hk
  unfold evDraw at he
  obtain ⟨hac, he⟩ := ite_some he
  obtain ⟨rs, stEnd, hruns, hkr, hmap, _, hpw⟩ := evDraws_runs hnt _ he
  have hsz : rs.length = ops.size := by
    have := congrArg List.length hmap
    simpa using this
  have hpos : ∀ (p : Nat) (s : Seen), rs[p]? = some s → ops[p]? = some s.o ∧ s.i = p := fun p s hs => by
    have : (rs.map fun s => (s.o, s.i))[p]? = some (s.o, s.i) := by rw [List.getElem?_map, hs]; rfl
    rw [hmap, List.getElem?_zipIdx] at this
    simp only [Option.map_eq_some_iff, Prod.mk.injEq, Nat.zero_add] at this
    obtain ⟨o, h1, h2, h3⟩ := this
    exact ⟨by rw [← h2]; simpa using h1, h3.symm⟩
  have hmem : ∀ s ∈ rs, ops[s.i]? = some s.o := fun s hs => by
    obtain ⟨p, hp⟩ := List.mem_iff_getElem?.1 hs
    obtain ⟨h1, h2⟩ := hpos p s hp
    rw [h2]; exact h1
  have hcls : Behind ops.toList (closes ops.toList []) := by
    have := closes_ok ops.toList [] [] rfl (behind_nil _)
    simpa using this
  have hall : ∀ j o, ops[j]? = some o → ∀ e ∈ edges o, e < j := fun j o ho e he => by
    rw [List.all_eq_true] at hac
    have := hac (o, j) (by rw [List.mem_zipIdx_iff_getElem?]; simpa using ho)
    rw [List.all_eq_true] at this
    exact Nat.le_of_ble_eq_true (this e he)
  have hlt : rs.Pairwise fun s x => s.i < x.i := by
    rw [List.pairwise_iff_getElem]
    intro p q hp hq hpq
    have h1 := (hpos p rs[p] (by simp [hp])).2
    have h2 := (hpos q rs[q] (by simp [hq])).2
    omega
  obtain ⟨I, σ, own, loose, RI, T, hP⟩ := h.ex
  refine wp_region_any hmix ?_
  have hlen0 : (Array.replicate ops.size false).size = ops.size := by simp
  refine any_ok (n := n) (N := n + 64 * ops.size) (cls := closes ops.toList []) (stEnd := stEnd) hC hcls hall (fun i hi => by omega) h.le h.names hd (fun a' w' hA => hk stEnd (n + 64 * ops.size) a' w' (by omega) hA hkr) ops.size rs [] _ st _ a hsz hruns (h.drew.mono (by omega))
    ⟨fun id o ho => ⟨.inl (RI.rel.lt id o ho).1, fun j hj => .inl ((RI.rel.lt id o ho).2 j hj)⟩, fun t id hid => .inl (T.ids t id hid)⟩ hlen0 (fun j hj => ?_) hmem ?_ (fun j hj => ?_) (fun s _ => by simp)
  · constructor
    · intro _
      have hp : j < rs.length := by omega
      exact ⟨rs[j], List.getElem_mem hp, (hpos j rs[j] (by simp [hp])).2⟩
    · intro _; simp [Array.getD_eq_getD_getElem?, hj]
  · exact (hlt.and hpw).imp fun h => h
  · exfalso
    rw [Array.getD_eq_getD_getElem?, Array.getElem?_replicate] at hj
    split at hj <;> simp at hj

theorem handler0_ok {G : FuncId → List AV → Option Con} {As : FuncId → Nat → Option Ann} (hG : ∀ f avs c, G f avs = some c → ConOk P f c) : HandlerOk P (handler P G As 0) := by
  intro R f avs vs S n w I σ H own loose k r Rr hS hA h
  simp only [handler] at h
  split at h
  · rename_i c hc; exact hG f avs c hc R avs vs S n w I σ H own loose k r Rr hS hA h
  · simp at h

/-- All of it: what is printed of a function is what it does. -/
theorem fn_ok {G : FuncId → List AV → Option Con} {As : FuncId → Nat → Option Ann} {f : FuncId} {fn : Func} {c : Con} {A : Nat → Option Ann} {d : Nat} (hmix : P.follows .mixedOrders = true) (hG : ∀ f avs c, G f avs = some c → ConOk P f c) (hf : P.funcs[f]? = some fn) (hs : c.sig.okB = true)
    (he : ∀ x, runF P (handler P G As 0) (handler P G As d) A fn c.sig x = c.fn x) : FnOk P f c :=
  have hD : DrawOk P (handler P G As 0) := draw_ok (handler0_ok hG) handler_nt hmix
  runF_ok (handler_ok hG hD d) hD hf (Sig.ok_of hs) he
end
end Go.Ev

namespace Go.Ev

/-- Do fields read as the parts of plain data? -/
noncomputable def fitsGo (P : Program) (d : TypeId → Ty → Bool) : List Field → Nat → Ty → Bool
  | [], _, .unit => true
  | [f], off, .one a => f.offset == off && d f.type a && P.cellsOf f.type == a.width
  | [f, g], off, .pair a b => f.offset == off && d f.type a && P.cellsOf f.type == a.width && g.offset == off + a.width && d g.type b && P.cellsOf g.type == b.width
  | f :: g :: h :: r, off, .pair a b => f.offset == off && d f.type a && P.cellsOf f.type == a.width && fitsGo P d (g :: h :: r) (off + a.width) b
  | _, _, _ => false

/-- Does a type of the program read as plain data? -/
noncomputable def fits (P : Program) : Nat → TypeId → Ty → Bool
  | 0, _, _ => false
  | n + 1, T, t => match P.underlying T, t with
    | some .bool, .bool => true
    | some (.int k), .int k' => k == k'
    | some .string, .str => true
    | some (.slice e), .list u => fits P n e u && P.cellsOf e == u.width && u.width != 0
    | some (.struct fs), t => fitsGo P (fits P n) fs.toList 0 t && P.cellsOf T == t.width
    | _, _ => false

/-- All that there is, for good. -/
def allOf (w : World) : Imm := fun b j => w.cell? ⟨b, j, none⟩

theorem mapM_some {A B : Type} {f : A → Option B} : ∀ {l : List A} {r : List B}, l.mapM f = some r → r.length = l.length ∧ ∀ (i : Nat) (a : A), l[i]? = some a → ∃ b, f a = some b ∧ r[i]? = some b
  | [], r, h => by simp at h; subst h; exact ⟨rfl, fun i a h => by simp at h⟩
  | a :: l, r, h => by
    simp only [List.mapM_cons, Option.bind_eq_bind, Option.bind_eq_some_iff, Option.pure_def, Option.some.injEq] at h
    obtain ⟨b, h1, bs, h2, rfl⟩ := h
    obtain ⟨h3, h4⟩ := mapM_some h2
    refine ⟨by simp [h3], fun i x hx => ?_⟩
    cases i with
    | zero => simp at hx; subst hx; exact ⟨b, h1, rfl⟩
    | succ i => simpa using h4 i x (by simpa using hx)

theorem all3_of {A B C : Type} {R : A → B → C → Prop} {c : C} : ∀ (as : List A), (∀ a ∈ as, ∃ b, R a b c) → ∃ bs, All3 R as bs (List.replicate as.length c)
  | [], _ => ⟨[], trivial⟩
  | a :: as, h => by
    obtain ⟨b, hb⟩ := h a (by simp)
    obtain ⟨bs, hbs⟩ := all3_of as fun a ha => h a (by simp [ha])
    exact ⟨b :: bs, hb, hbs⟩

theorem flat_cells {sz : Nat} : ∀ (css : List (List Value)) {F : Nat → Option Value}, (∀ c ∈ css, c.length = sz) → (∀ (i : Nat) (c : List Value), css[i]? = some c → ∀ (r : Nat) (v : Value), c[r]? = some v → F (i * sz + r) = some v) →
    ∀ (j : Nat) (v : Value), css.flatten[j]? = some v → F j = some v
  | [], F, _, _, j, v, h => by simp at h
  | c :: css, F, hl, hF, j, v, h => by
    rw [List.flatten_cons] at h
    by_cases hj : j < c.length
    · rw [List.getElem?_append_left hj] at h
      have := hF 0 c rfl j v h
      simpa using this
    · rw [List.getElem?_append_right (by omega)] at h
      have hc := hl c (by simp)
      have := flat_cells css (F := fun k => F (k + sz)) (fun c hc => hl c (by simp [hc])) (fun i c' hi r v' hr => by
        have := hF (i + 1) c' (by simpa using hi) r v' hr
        rw [Nat.add_mul, Nat.one_mul] at this
        show F (i * sz + r + sz) = some v'
        rw [← this]; congr 1; omega) (j - c.length) v h
      have e : j - c.length + sz = j := by omega
      rw [← e]; exact this

section
variable {H : Type} {enc : TypeId × Value → H} {P : Program} {w : World} {sp : Nat → Bool} {held : Bool} {σ : Nat → Value}

theorem fits_pure : ∀ (n : Nat) {T : TypeId} {t : Ty}, fits P n T t = true → t.pure = true
  | 0, _, _, h => by simp [fits] at h
  | n + 1, T, t, h => by
    have go : ∀ (fs : List Field) (off : Nat) (t : Ty), fitsGo P (fits P n) fs off t = true → t.pure = true := by
      intro fs
      induction fs with
      | nil => intro off t h; cases t <;> simp [fitsGo] at h; rfl
      | cons f r ih =>
        intro off t h
        match r, h with
        | [], h =>
          cases t <;> simp [fitsGo] at h
          simp only [Ty.pure]
          exact fits_pure n h.1.2
        | [g], h =>
          cases t <;> simp [fitsGo] at h
          simp only [Ty.pure, Bool.and_eq_true]
          exact ⟨fits_pure n h.1.1.1.1.2, fits_pure n h.1.2⟩
        | g :: k :: r, h =>
          cases t <;> simp [fitsGo] at h
          simp only [Ty.pure, Bool.and_eq_true]
          exact ⟨fits_pure n h.1.1.2, ih _ _ h.2⟩
    unfold fits at h
    split at h
    · rfl
    · rfl
    · rfl
    · simp only [Bool.and_eq_true] at h
      simp only [Ty.pure]
      exact fits_pure n h.1.1
    · simp only [Bool.and_eq_true] at h; exact go _ _ _ h.1
    · simp at h

theorem cells_some {a : Addr} {n : Nat} {cs : List Value} (h : w.cells? 0 a n = some cs) : cs.length = n ∧ ∀ r v, cs[r]? = some v → w.cell? (a.add r) = some v := by
  unfold World.cells? at h
  rw [if_pos (Nat.zero_le _)] at h
  obtain ⟨h1, h2⟩ := mapM_some h
  rw [List.length_range] at h1
  refine ⟨h1, fun r v hv => ?_⟩
  have hr : r < n := by rw [← h1]; exact (List.getElem?_eq_some_iff.1 hv).1
  obtain ⟨b, h3, h4⟩ := h2 r r (by rw [List.getElem?_range hr])
  rw [hv] at h4
  injection h4 with h4
  subst h4
  exact h3

theorem cell_spot {a : Addr} {v : Value} (h : w.cell? a = some v) : a.spot = none := by
  unfold World.cell? at h
  split at h
  · split at h
    · simp at h
    · rename_i hs; simpa using hs
  · simp at h

theorem read_ok : ∀ (n : Nat) {T : TypeId} {t : Ty}, fits P n T t = true → ∀ (fuel : Nat) (cs : List Value) (d : DataW H) (ps : List MemPlace), DataW.trod enc P w 0 sp held fuel T cs = some (d, ps) →
    ∃ x : t.den, TRep w (allOf w) σ t cs x []
  | 0, _, _, h, _, _, _, _, _ => by simp [fits] at h
  | n + 1, T, t, h, fuel, cs, d, ps, ht => by
    have hp := fits_pure (n + 1) h
    cases fuel with
    | zero => simp [DataW.trod] at ht
    | succ fuel =>
    unfold fits at h
    split at h
    · rename_i hu
      simp only [DataW.trod, hu] at ht
      have : ∃ b, cs = [.bool b] := by split at ht <;> simp_all
      obtain ⟨b, rfl⟩ := this
      exact ⟨b, ⟨rfl, rfl⟩⟩
    · rename_i k k' hu
      simp only [beq_iff_eq] at h
      subst h
      simp only [DataW.trod, hu] at ht
      have : ∃ a, cs = [.int k a] ∧ (Lit.int k a).wf = true := by split at ht <;> simp_all
      obtain ⟨a, rfl, hwf⟩ := this
      simp only [Lit.wf, Bool.and_eq_true, decide_eq_true_eq] at hwf
      exact ⟨a, ⟨rfl, rfl, hwf.1, hwf.2⟩⟩
    · rename_i hu
      simp only [DataW.trod, hu] at ht
      have : ∃ s, cs = [.string s] ∧ s.size ≤ Go.maxLen := by split at ht <;> simp_all
      obtain ⟨s, rfl, hs⟩ := this
      exact ⟨bytesOf s, ⟨rfl, s, rfl, rfl, hs⟩⟩
    · rename_i e u hu
      simp only [Bool.and_eq_true, beq_iff_eq, bne_iff_ne, ne_eq] at h
      obtain ⟨⟨h1, h2⟩, h3⟩ := h
      have hup : u.pure = true := hp
      simp only [DataW.trod, hu] at ht
      have : cs = [.slice none 0 0] ∨ ∃ a len cap, cs = [.slice (some a) len cap] := by
        split at ht <;> simp_all
      rcases this with rfl | ⟨a, len, cap, rfl⟩
      · exact ⟨([] : List u.den), ⟨rfl, hup, none, 0, [], [], rfl, by simp, by decide, trivial, fun hx => absurd rfl hx⟩⟩
      · simp only at ht
        split at ht
        · rename_i hc
          obtain ⟨elems, h4, _⟩ := Option.bind_eq_some_iff.1 ht
          obtain ⟨h5, h6⟩ := mapM_some h4
          rw [List.length_range] at h5
          have hel : ∀ i, i < len → ∃ ci, w.cells? 0 (a.add (i * P.cellsOf e)) (P.cellsOf e) = some ci ∧ ∃ x, TRep w (allOf w) σ u ci x [] := fun i hi => by
            obtain ⟨b, h7, _⟩ := h6 i i (by rw [List.getElem?_range hi])
            obtain ⟨ci, h8, h9⟩ := Option.bind_eq_some_iff.1 h7
            exact ⟨ci, h8, read_ok n h1 fuel ci b.1 b.2 h9⟩
          let css : List (List Value) := (List.range len).map fun i => (w.cells? 0 (a.add (i * P.cellsOf e)) (P.cellsOf e)).getD []
          have hcss : ∀ (i : Nat) (c : List Value), css[i]? = some c → i < len ∧ w.cells? 0 (a.add (i * P.cellsOf e)) (P.cellsOf e) = some c := fun i c hc => by
            simp only [css, List.getElem?_map, Option.map_eq_some_iff] at hc
            obtain ⟨i', h7, h8⟩ := hc
            have hi : i < len := by have := (List.getElem?_eq_some_iff.1 h7).1; simpa using this
            rw [List.getElem?_range hi] at h7
            injection h7 with h7
            subst h7
            obtain ⟨ci, h9, _⟩ := hel i hi
            rw [h9] at h8
            refine ⟨hi, ?_⟩
            rw [h9, ← h8]; rfl
          obtain ⟨xs, hxs⟩ := all3_of (R := TRep w (allOf w) σ u) (c := []) css (fun c hc => by
            obtain ⟨i, hi⟩ := List.mem_iff_getElem?.1 hc
            obtain ⟨h7, h8⟩ := hcss i c hi
            obtain ⟨ci, h9, x, h10⟩ := hel i h7
            rw [h8] at h9
            injection h9 with h9
            subst h9
            exact ⟨x, h10⟩)
          have hlen : xs.length = len := by have := hxs.len; rw [← this.1]; simp [css]
          refine ⟨xs, ⟨rfl, hup, some a, cap, css, List.replicate css.length [], by rw [hlen], by rw [hlen]; exact hc.2.1, hc.2.2, hxs, fun hne => ?_⟩⟩
          have hpos : 0 < len := by
            rcases Nat.eq_zero_or_pos len with e0 | e0
            · rw [e0] at hlen; exact absurd (List.eq_nil_of_length_eq_zero hlen) hne
            · exact e0
          have hsp : a.spot = none := by
            obtain ⟨ci, h7, _⟩ := hel 0 hpos
            obtain ⟨h8, h9⟩ := cells_some h7
            have hw0 : 0 < ci.length := by rw [h8, h2]; omega
            have := cell_spot (h9 0 ci[0] (by simp [hw0]))
            simpa [Addr.add] using this
          obtain ⟨ab, ao, asp⟩ := a
          simp only at hsp
          subst hsp
          refine ⟨ab, ao, rfl, flat_cells (sz := P.cellsOf e) css (F := fun j => allOf w ab (ao + j)) (fun c hc => ?_) fun i c hi r v hr => ?_⟩
          · obtain ⟨i, hi⟩ := List.mem_iff_getElem?.1 hc
            exact (cells_some (hcss i c hi).2).1
          · have := (cells_some (hcss i c hi).2).2 r v hr
            rw [addr_add, addr_add] at this
            show w.cell? ⟨ab, ao + (i * P.cellsOf e + r), none⟩ = some v
            rw [← Nat.add_assoc]
            exact this
        · simp at ht
    · rename_i fs hu
      simp only [Bool.and_eq_true, beq_iff_eq] at h
      obtain ⟨h1, h2⟩ := h
      simp only [DataW.trod, hu] at ht
      split at ht
      · rename_i hl
        simp only [Option.map_eq_some_iff] at ht
        obtain ⟨xs, h3, _⟩ := ht
        obtain ⟨_, h4⟩ := mapM_some h3
        have hf : ∀ f ∈ fs.toList, ∃ b, DataW.trod enc P w 0 sp held fuel f.type ((cs.drop f.offset).take (P.cellsOf f.type)) = some b := fun f hf => by
          obtain ⟨i, hi⟩ := List.mem_iff_getElem?.1 hf
          obtain ⟨b, h5, _⟩ := h4 i f hi
          exact ⟨b, h5⟩
        have go : ∀ (fs : List Field) (off : Nat) (t : Ty), fitsGo P (fits P n) fs off t = true → (∀ f ∈ fs, ∃ b, DataW.trod enc P w 0 sp held fuel f.type ((cs.drop f.offset).take (P.cellsOf f.type)) = some b) → ∃ x, TRep w (allOf w) σ t ((cs.drop off).take t.width) x [] := by
          intro fs
          induction fs with
          | nil => intro off t h hf; cases t <;> simp [fitsGo] at h; exact ⟨(), ⟨rfl, by simp [Ty.width]⟩⟩
          | cons f r ih =>
            intro off t h hf
            obtain ⟨b, hb⟩ := hf f (by simp)
            match r, h, ih, hf with
            | [], h, ih, hf =>
              cases t <;> simp [fitsGo] at h
              obtain ⟨⟨rfl, e2⟩, e3⟩ := h
              rw [e3] at hb
              exact read_ok n e2 fuel _ b.1 b.2 hb
            | [g], h, ih, hf =>
              cases t <;> simp [fitsGo] at h
              obtain ⟨⟨⟨⟨⟨rfl, e2⟩, e3⟩, e4⟩, e5⟩, e6⟩ := h
              obtain ⟨b2, hb2⟩ := hf g (by simp)
              rw [e3] at hb
              rw [e4, e6] at hb2
              obtain ⟨x, hx⟩ := read_ok n e2 fuel _ b.1 b.2 hb
              obtain ⟨y, hy⟩ := read_ok n e5 fuel _ b2.1 b2.2 hb2
              refine ⟨(x, y), ⟨_, _, [], [], ?_, rfl, hx, hy⟩⟩
              rw [Ty.width, List.take_add, List.drop_drop]
            | g :: k :: r, h, ih, hf =>
              cases t <;> simp [fitsGo] at h
              obtain ⟨⟨⟨rfl, e2⟩, e3⟩, e4⟩ := h
              rw [e3] at hb
              obtain ⟨x, hx⟩ := read_ok n e2 fuel _ b.1 b.2 hb
              obtain ⟨y, hy⟩ := ih _ _ e4 fun f hf' => hf f (by simp only [List.mem_cons] at hf' ⊢; exact .inr hf')
              refine ⟨(x, y), ⟨_, _, [], [], ?_, rfl, hx, hy⟩⟩
              rw [Ty.width, List.take_add, List.drop_drop]
        obtain ⟨x, hx⟩ := go _ _ _ h1 hf
        rw [List.drop_zero, ← h2, ← hl, List.take_length] at hx
        exact ⟨x, hx⟩
      · simp at ht
    · simp at h

theorem wide_agg {r : Reach} {b0 : Nat} {T : TypeId} {v : Value} (h : Value.okWide P w r b0 T v) {b : Bool} (hb : isAggT P T = some b) : (b = true → ∃ c, v = .agg c) ∧ (b = false → ∀ c, v ≠ .agg c) := by
  unfold Value.okWide at h
  unfold isAggT at hb
  cases hu : P.underlying T with
  | none => rw [hu] at hb; simp at hb
  | some u =>
    rw [hu] at h hb
    cases u <;> simp only [Option.some.injEq] at h hb <;> subst hb <;> refine ⟨fun e => ?_, fun e c hc => ?_⟩ <;> first | (simp at e; done) | (obtain ⟨cs, e1, _⟩ := h; exact ⟨cs, e1⟩) | (subst hc; simp [Cell.okWide, Cell.ok, hu] at h)
end
end Go.Ev

namespace Go.Ev

/-! ### What is known of functions -/
structure Ent where
  f : FuncId
  nil : Bool
  con : Con
noncomputable def nilArg : List AV → Bool
  | .nil :: _ => true
  | _ => false
noncomputable def known : List Ent → FuncId → List AV → Option Con
  | [], _, _ => none
  | e :: r, f, avs => if e.f == f && e.nil == nilArg avs then some e.con else known r f avs

def AllOk (P : Program) (l : List Ent) : Prop := ∀ e ∈ l, ConOk P e.f e.con
theorem known_ok {P : Program} : ∀ {l : List Ent}, AllOk P l → ∀ f avs c, known l f avs = some c → ConOk P f c
  | [], _, f, avs, c, h => by simp [known] at h
  | e :: r, hl, f, avs, c, h => by
    simp only [known] at h
    split at h
    · rename_i hc
      simp only [Bool.and_eq_true, beq_iff_eq] at hc
      simp only [Option.some.injEq] at h
      subst h
      rw [← hc.1]
      exact hl e (by simp)
    · exact known_ok (fun e he => hl e (by simp [he])) f avs c h

theorem AllOk.nil {P : Program} : AllOk P [] := fun e he => by simp at he
theorem AllOk.cons {P : Program} {e : Ent} {l : List Ent} (h : ConOk P e.f e.con) (t : AllOk P l) : AllOk P (e :: l) := fun x hx => by
  rcases List.mem_cons.1 hx with rfl | hx
  · exact h
  · exact t x hx

/-- A function whose text is what is said, all calls in it known. -/
theorem con_of {P : Program} {l : List Ent} {As : FuncId → Nat → Option Ann} {f : FuncId} {fn : Func} {c : Con} (d : Nat) (hmix : P.follows .mixedOrders = true) (hl : AllOk P l) (hf : P.funcs[f]? = some fn) (hs : c.sig.okB = true)
    (he : (fun x => runF P (handler P (known l) As 0) (handler P (known l) As d) (As f) fn c.sig x) = c.fn) : ConOk P f c :=
  con_ok (Sig.ok_of hs) (fn_ok hmix (known_ok hl) hf hs fun x => congrFun he x)

theorem fn_of {P : Program} {l : List Ent} {As : FuncId → Nat → Option Ann} {f : FuncId} {fn : Func} {c : Con} (d : Nat) (hmix : P.follows .mixedOrders = true) (hl : AllOk P l) (hf : P.funcs[f]? = some fn) (hs : c.sig.okB = true)
    (he : (fun x => runF P (handler P (known l) As 0) (handler P (known l) As d) (As f) fn c.sig x) = c.fn) : FnOk P f c :=
  fn_ok hmix (known_ok hl) hf hs fun x => congrFun he x

/-! ### Laws -/
abbrev dat (t : Ty) : AV := .dat t t.dflt
abbrev sig1 (t : Ty) : Sig := ⟨[dat t], [], dat .bool, []⟩
abbrev sig2 (t u : Ty) : Sig := ⟨[dat t, dat u], [], dat .bool, []⟩
abbrev sig3 (t u s : Ty) : Sig := ⟨[dat t, dat u, dat s], [], dat .bool, []⟩

/-- An argument that is data. -/
structure ArgOk (w : World) (t : Ty) (v : Value) (x : t.den) : Prop where
  pure : t.pure = true
  rep : TRep w (allOf w) (fun _ => default) t v.cells.toList x []
  agg : t.isAgg = true → ∃ c, v = .agg c
  one : t.isAgg = false → ∀ c, v ≠ .agg c

theorem ArgOk.avv {w : World} {t : Ty} {v : Value} {x : t.den} (h : ArgOk w t v x) {H : Heap} : AvV w (allOf w) (fun _ => default) H (.dat t x) v :=
  ⟨fun e => by simp [isT] at e, fun _ => ⟨⟨h.pure, h.rep⟩, fun e => h.agg (by simpa [AV.agg] using e), fun e => h.one (by simpa [AV.agg] using e)⟩⟩

theorem start_ok (w : World) : Inv (Start.of w (allOf w) (fun _ => default) (fun _ => none) (fun _ => [])) 64 w (allOf w) (fun _ => default) (fun _ => none) (fun _ => []) [] :=
  ⟨⟨fun b j v h => h, fun _ _ h => by simp at h, fun _ _ h => by simp at h, fun _ _ _ _ _ h => by simp at h, fun _ _ h => by simp at h⟩, Kept.refl _ _ _, fun _ _ h => by simp at h, by simp, fun _ _ h => by simp at h, by simp, fun _ _ _ h => by simp [Start.of] at h⟩

theorem below_of {w w' : World} {I' : Imm} (h : Kept w w' (allOf w) I' (fun b => ∃ j o, (fun _ : Nat => (none : Option Obj)) j = some o ∧ b ∈ (fun _ : Nat => ([] : List Nat)) j)) : RowKit.Below w.heap.size w w' :=
  ⟨h.os, h.tape, h.output, h.size, fun k hk => (h.blk k hk (fun ⟨_, _, e, _⟩ => by simp at e)).1⟩

section
variable {P : Program} {f : FuncId}

theorem law1 {t : Ty} {F : Tys (sig1 t).ins → Option (Tys (sig1 t).out)} (hf : FnOk P f ⟨sig1 t, F⟩) (hF : ∀ x, F x = some true) {w : World} {v : Value} {x : t.den} (h : ArgOk w t v x) :
    Calls P f #[v] w fun e w' => e = .returned (.bool true) ∧ RowKit.Below w.heap.size w w' := by
  refine Calls.mono (hf (x, ()) true (hF _) w (allOf w) (fun _ => default) (fun _ => []) [v] (start_ok w) rfl fun i => ?_) fun e w' he => ?_
  · match i with
    | 0 => exact h.avv
    | i + 1 => exact avv_any
  · obtain ⟨v', rfl, u, I', σ', own', hz, R', hv, _, _⟩ := he
    have hv : AvV w' I' σ' _ (.dat .bool u.1) v' := hv
    have hu : u.1 = true := hz.symm
    rw [hu] at hv
    rw [hv.bool_inv]
    exact ⟨rfl, below_of R'.kept⟩

theorem law2 {t s : Ty} {F : Tys (sig2 t s).ins → Option (Tys (sig2 t s).out)} (hf : FnOk P f ⟨sig2 t s, F⟩) (hF : ∀ x, F x = some true) {w : World} {v1 v2 : Value} {x1 : t.den} {x2 : s.den} (h1 : ArgOk w t v1 x1) (h2 : ArgOk w s v2 x2) :
    Calls P f #[v1, v2] w fun e w' => e = .returned (.bool true) ∧ RowKit.Below w.heap.size w w' := by
  refine Calls.mono (hf (x1, x2, ()) true (hF _) w (allOf w) (fun _ => default) (fun _ => []) [v1, v2] (start_ok w) rfl fun i => ?_) fun e w' he => ?_
  · match i with
    | 0 => exact h1.avv
    | 1 => exact h2.avv
    | i + 2 => exact avv_any
  · obtain ⟨v', rfl, u, I', σ', own', hz, R', hv, _, _⟩ := he
    have hv : AvV w' I' σ' _ (.dat .bool u.1) v' := hv
    have hu : u.1 = true := hz.symm
    rw [hu] at hv
    rw [hv.bool_inv]
    exact ⟨rfl, below_of R'.kept⟩

theorem law3 {t s q : Ty} {F : Tys (sig3 t s q).ins → Option (Tys (sig3 t s q).out)} (hf : FnOk P f ⟨sig3 t s q, F⟩) (hF : ∀ x, F x = some true) {w : World} {v1 v2 v3 : Value} {x1 : t.den} {x2 : s.den} {x3 : q.den} (h1 : ArgOk w t v1 x1) (h2 : ArgOk w s v2 x2) (h3 : ArgOk w q v3 x3) :
    Calls P f #[v1, v2, v3] w fun e w' => e = .returned (.bool true) ∧ RowKit.Below w.heap.size w w' := by
  refine Calls.mono (hf (x1, x2, x3, ()) true (hF _) w (allOf w) (fun _ => default) (fun _ => []) [v1, v2, v3] (start_ok w) rfl fun i => ?_) fun e w' he => ?_
  · match i with
    | 0 => exact h1.avv
    | 1 => exact h2.avv
    | 2 => exact h3.avv
    | i + 3 => exact avv_any
  · obtain ⟨v', rfl, u, I', σ', own', hz, R', hv, _, _⟩ := he
    have hv : AvV w' I' σ' _ (.dat .bool u.1) v' := hv
    have hu : u.1 = true := hz.symm
    rw [hu] at hv
    rw [hv.bool_inv]
    exact ⟨rfl, below_of R'.kept⟩

/-- An argument of a row. -/
theorem arg_of {H : Type} {enc : TypeId × Value → H} {w : World} {sp : Nat → Bool} {held : Bool} {T : TypeId} {t : Ty} {v : Value} {d : DataW H} {ps : List MemPlace} {b0 : Nat} {r : Reach} (hfit : fits P 12 T t = true) (hagg : isAggT P T = some t.isAgg)
    (h : DataW.Trod enc P w 0 sp held T v d ps) (hw : Value.okWide P w r b0 T v) : ∃ x, ArgOk w t v x := by
  obtain ⟨fuel, h⟩ := h
  obtain ⟨x, hx⟩ := read_ok (σ := fun _ => default) 12 hfit fuel _ d ps h
  obtain ⟨h1, h2⟩ := wide_agg hw hagg
  exact ⟨x, fits_pure 12 hfit, hx, h1, h2⟩
end
end Go.Ev

namespace Go.Ev

theorem br_t {R : Type} {x y : R} : br true x y = x := by rw [br_eq]; rfl
theorem br_f {R : Type} {x y : R} : br false x y = y := by rw [br_eq]; rfl
theorem br_if {R : Type} {p : Prop} [Decidable p] {x y : R} : br (decide p) x y = if p then x else y := by rw [br_eq]; by_cases h : p <;> simp [h]
theorem grd_yes {p : Prop} [Decidable p] {R : Type} {k : Option R} (h : p) : grd p k = k := by rw [grd_eq, if_pos h]
theorem bnd_yes {α β : Type} {x : Option α} {a : α} {f : α → Option β} (h : x = some a) : bnd x f = f a := by rw [bnd_eq, h]; rfl

/-- A loop that has an end. -/
theorem loop_some {S R : Type} {f : S → Option (S ⊕ R)} {s : S} {r : R} (h : ∃ n, iter f n s = some r) : loopR f s = some r := by
  have uniq : ∀ (n m : Nat) (s : S) (r r' : R), iter f n s = some r → iter f m s = some r' → r = r' := by
    intro n
    induction n with
    | zero => intro m s r r' h; simp [iter] at h
    | succ n ih =>
      intro m s r r' h h'
      cases m with
      | zero => simp [iter] at h'
      | succ m =>
        simp only [iter] at h h'
        split at h
        · simp at h
        · rename_i s' e; rw [e] at h'; exact ih m s' r r' h h'
        · rename_i r1 e; rw [e] at h'; simp only [Option.some.injEq] at h h'; rw [← h, ← h']
  obtain ⟨n, hn⟩ := h
  have hex : ∃ n r, iter f n s = some r := ⟨n, r, hn⟩
  unfold loopR
  rw [dif_pos hex]
  congr 1
  exact uniq _ n s _ r (Classical.choose_spec (Classical.choose_spec hex)) hn

/-- A loop whose rounds go on while a measure falls: what it gives. -/
theorem loop_inv {S R : Type} {f : S → Option (S ⊕ R)} (I : S → Prop) (μ : S → Nat) (Q : R → Prop) (step : ∀ s, I s → (∃ s', f s = some (.inl s') ∧ I s' ∧ μ s' < μ s) ∨ ∃ r, f s = some (.inr r) ∧ Q r) : ∀ s, I s → ∃ r, loopR f s = some r ∧ Q r := by
  have key : ∀ (n : Nat) (s : S), μ s = n → I s → ∃ r, (∃ k, iter f k s = some r) ∧ Q r := by
    intro n
    induction n using Nat.strongRecOn with
    | _ n ih =>
      intro s hn hs
      rcases step s hs with ⟨s', h1, h2, h3⟩ | ⟨r, h1, h2⟩
      · obtain ⟨r, ⟨k, hk⟩, hq⟩ := ih (μ s') (hn ▸ h3) s' rfl h2
        exact ⟨r, ⟨k + 1, by simp only [iter, h1]; exact hk⟩, hq⟩
      · exact ⟨r, ⟨1, by simp only [iter, h1]⟩, h2⟩
  intro s hs
  obtain ⟨r, h1, h2⟩ := key _ s rfl hs
  exact ⟨r, loop_some h1, h2⟩

theorem w64_id {x : Int} (h1 : -9223372036854775808 ≤ x) (h2 : x ≤ 9223372036854775807) : w64 x = x := by
  rw [w64_eq]
  simp only [IntKind.wrap, IntKind.signed, IntKind.bits]
  simp
  omega
end Go.Ev

