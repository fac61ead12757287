/- A way to show what code computes: part 8: no condition. -/
import Derived.Test.YtocefhfihimjdaaE7
import Derived.Tactics
set_option linter.unusedVariables false
namespace Go.Ev

/-- From where what is known is reckoned. -/
structure Base where
  n : Nat
  w : World
  I : Imm
  σ : Nat → Value
  H : Heap

/-- A state of a walk. -/
structure At (S : Start) (B : Base) (m n : Nat) (w : World) (st : St) (a : Act) : Prop where
  ex : ∃ I σ own loose, Inv S n w I σ st.heap own loose ∧ TRel n w I σ st a ∧ Pres B.n B.w B.I B.σ B.H w I σ st.heap
  le : B.n ≤ n
  names : ∀ j o, S.H j = some o → j < n
  defers : a.defers = []
  size : a.tmps.size = m

section
variable {S : Start} {B : Base} {m n n' : Nat} {w : World} {I : Imm} {σ : Nat → Value} {H : Heap} {own : Own} {loose : List Nat}
variable {RR : Type} {P : Program} {r : RR} {k : St → Option RR} {C : Handler} {o : Oper} {st : St} {a : Act}

theorem put_getD (a : Act) (d t : Nat) (v : Value) (h : d < a.tmps.size) : (a.put (some d) v).tmps.getD t undef = if t = d then v else a.tmps.getD t undef := by
  simp only [Act.put, Array.getD_eq_getD_getElem?, Array.getElem?_setIfInBounds]
  by_cases e : d = t
  · subst e; simp [h]
  · rw [if_neg e, if_neg (fun h => e h.symm)]

theorem TRel.dst {H' : Heap} {av : AV} {v : Value} {d : Option Nat} (T : TRel n w I σ { st with heap := H' } a) (hv : AvV w I σ H' av v) (hi : ∀ id ∈ av.ids, id < n) (hd : ∀ t, d = some t → t < a.tmps.size) :
    TRel n w I σ (({ st with heap := H' } : St).dst d av) (a.put d v) := by
  cases d with
  | none => exact T
  | some d =>
    have hlt := hd d rfl
    refine ⟨fun t => ?_, fun t id hid => ?_⟩
    · rw [put_getD _ _ _ _ hlt]
      simp only [St.dst, St.put]
      split
      · exact hv
      · exact T.val t
    · simp only [St.dst, St.put] at hid
      split at hid
      · exact hi id hid
      · exact T.ids t id hid

theorem TRel.pres {w' : World} {I' : Imm} {σ' : Nat → Value} {H' : Heap} (T : TRel n w I σ st a) (h : Pres n w I σ st.heap w' I' σ' H') (hn : n ≤ n') : TRel n' w' I' σ' { st with heap := H' } a :=
  ⟨fun t => (T.val t).pres h (T.ids t), fun t id hid => Nat.lt_of_lt_of_le (T.ids t id hid) hn⟩

theorem TRel.any {d : Option Nat} {v : Value} (T : TRel n w I σ st a) (hd : ∀ t, d = some t → t < a.tmps.size) : TRel n w I σ (st.dst d .any) (a.put d v) :=
  TRel.dst (H' := st.heap) T avv_any (by simp [AV.ids]) hd

theorem TRel.lb {t : Nat} {b : Bool} (T : TRel n w I σ st a) (h : a.tmps.getD t undef = .bool b) : TRel n w I σ (st.put t (.lb b)) a :=
  ⟨fun u => by
    simp only [St.put]
    split
    · rename_i e; subst e; rw [h]; exact avv_lb
    · exact T.val u, fun u id hid => by
    simp only [St.put] at hid
    split at hid
    · simp [AV.ids] at hid
    · exact T.ids u id hid⟩

theorem At.mono (h : At S B m n w st a) (hn : n ≤ n') : At S B m n' w st a := by
  obtain ⟨I, σ, own, loose, R, T, hP⟩ := h.ex
  exact ⟨⟨I, σ, own, loose, R.more hn, ⟨T.val, fun t id hid => by have := T.ids t id hid; omega⟩, hP⟩, by have := h.le; omega, fun j o ho => by have := h.names j o ho; omega, h.defers, h.size⟩

theorem At.lb {t : Nat} {b : Bool} (h : At S B m n w st a) (hb : a.tmps.getD t undef = .bool b) : At S B m n w (st.put t (.lb b)) a := by
  obtain ⟨I, σ, own, loose, R, T, hP⟩ := h.ex
  exact ⟨⟨I, σ, own, loose, R, T.lb hb, hP⟩, h.le, h.names, h.defers, h.size⟩

theorem At.any {d : Option Nat} {v : Value} (h : At S B m n w st a) (hd : ∀ t, d = some t → t < m) : At S B m n w (st.dst d .any) (a.put d v) := by
  obtain ⟨I, σ, own, loose, R, T, hP⟩ := h.ex
  refine ⟨⟨I, σ, own, loose, ?_, T.any fun t ht => by rw [h.size]; exact hd t ht, ?_⟩, h.le, h.names, ?_, ?_⟩
  · cases d <;> exact R
  · cases d <;> exact hP
  · cases d <;> exact h.defers
  · cases d <;> simp [Act.put, h.size]

theorem At.tmp (h : At S B m n w st a) (t : Nat) : ∃ I σ, AvV w I σ st.heap (st.tmps t) (a.tmps.getD t undef) := by
  obtain ⟨I, σ, own, loose, R, T, hP⟩ := h.ex
  exact ⟨I, σ, T.val t⟩

/-- One operation of a walk. -/
theorem At.op {k : St → Nat → Option RR} (hC : HandlerOk P C) (h : At S B m n w st a) (he : evO P C o st n (fun v H n' => k (({ st with heap := H } : St).dst o.dst v) n') = some r) (hd : ∀ t, o.dst = some t → t < m)
    {next : Act → World → Prop} {Q : Exit → Act → World → Prop} (hk : ∀ st' n' a' w', n ≤ n' → At S B m n' w' st' a' → k st' n' = some r → next a' w') : o.wp P a w next Q := by
  obtain ⟨I, σ, own, loose, R, T, hP⟩ := h.ex
  refine (o_ok hC R T h.names he).wp fun v w' ⟨n', av, I', σ', H', own', loose', hn, k1, k2, k3, k4, k5⟩ => hk _ _ _ _ hn ⟨⟨I', σ', own', loose', ?_, ?_, ?_⟩, by have := h.le; omega, fun j o ho => by have := h.names j o ho; omega, ?_, ?_⟩ k1
  · cases o.dst <;> exact k2
  · exact (T.pres k3 hn).dst k4 k5 (fun t ht => by rw [h.size]; exact hd t ht)
  · cases o.dst <;> exact hP.trans (k3.less h.le)
  · cases o.dst <;> exact h.defers
  · cases o.dst <;> simp [Act.put, h.size]

theorem yield_of {ops : Array Oper} {j t : Nat} {b : Bool} (hj : (ops[j]?).bind (·.dst) = some t) (h : a.tmps.getD t undef = .bool b) : yielded ops a.tmps j = some b := by
  unfold yielded
  rw [hj]
  simp only [Option.bind_some]
  cases e : a.tmps[t]? with
  | none => simp [Array.getD_eq_getD_getElem?, e, undef] at h
  | some v => simp [Array.getD_eq_getD_getElem?, e] at h; subst h; rfl

/-- A region whose order is that of its text. -/
theorem ops_ok {ops : Array Oper} {Q : Exit → Act → World → Prop} (hC : HandlerOk P C) : ∀ (l : List Oper) {n : Nat} {w : World} {st : St} {a : Act} {k : St → Nat → Option RR}, At S B m n w st a → (∀ o ∈ l, ∀ t, o.dst = some t → t < m) →
    evOps P C ops l st n k = some r → (∀ st' n' a' w', n ≤ n' → At S B m n' w' st' a' → k st' n' = some r → Q .normal a' w') → wpList P ops Q l a w := by
  intro l
  induction l with
  | nil => intro n w st a k h hd he hk; exact hk _ _ _ _ (Nat.le_refl _) h he
  | cons o l ih =>
    intro n w st a k h hd he hk
    have hdo := hd o (by simp)
    have hdl : ∀ o ∈ l, ∀ t, o.dst = some t → t < m := fun o ho => hd o (by simp [ho])
    have cont : ∀ {st1 : St} {n1 : Nat} {a1 : Act} {w1 : World}, n ≤ n1 → At S B m n1 w1 st1 a1 → evOps P C ops l st1 n1 k = some r → wpList P ops Q l a1 w1 := fun hn h1 he1 =>
      ih h1 hdl he1 fun st' n' a' w' hn' h' hk' => hk st' n' a' w' (by omega) h' hk'
    have run : ∀ {st1 : St}, At S B m n w st1 a → evO P C o st1 n (fun v H m => evOps P C ops l (({ st1 with heap := H } : St).dst o.dst v) m k) = some r → o.wp P a w (wpList P ops Q l) Q := fun h1 he1 =>
      h1.op (k := fun st' n' => evOps P C ops l st' n' k) hC he1 hdo fun st' n' a' w' hn h' hk' => cont hn h' hk'
    have skip : ∀ {st1 : St}, At S B m n w st1 a → evOps P C ops l (st1.dst o.dst .any) n k = some r → wpList P ops Q l (a.put o.dst undef) w := fun h1 he1 => cont (Nat.le_refl _) (h1.any hdo) he1
    simp only [evOps, evG] at he
    unfold wpList
    split at he
    · rename_i hg
      rw [if_pos (by simp [Region.wanted, hg])]
      exact .inl (run h he)
    · rename_i j want hg
      split at he
      · simp at he
      · rename_i t ht
        have key : ∀ (b : Bool), a.tmps.getD t undef = .bool b → ∀ (st1 : St), At S B m n w st1 a → (if b = want then evO P C o st1 n (fun v H m => evOps P C ops l (({ st1 with heap := H } : St).dst o.dst v) m k) else evOps P C ops l (st1.dst o.dst .any) n k) = some r →
            if Region.wanted o (yielded ops a.tmps) = true then o.wp P a w (wpList P ops Q l) Q ∨ o.asks P a w ∧ LetsOut Q else wpList P ops Q l (a.put o.dst undef) w := by
          intro b hb st1 h1 he1
          have hw : Region.wanted o (yielded ops a.tmps) = decide (b = want) := by
            simp only [Region.wanted, hg, yield_of ht hb]
            cases b <;> cases want <;> rfl
          rw [hw]
          by_cases hbw : b = want
          · rw [if_pos hbw] at he1; rw [if_pos (by simp [hbw])]; exact .inl (run h1 he1)
          · rw [if_neg hbw] at he1; rw [if_neg (by simp [hbw])]; exact skip h1 he1
        obtain ⟨I0, σ0, hv⟩ := h.tmp t
        split at he
        · rename_i b hb
          rw [hb] at hv
          exact key b hv.lb_inv st h he
        · rename_i b hb
          rw [hb] at hv
          have hv := hv.bool_inv
          rw [br_eq] at he
          cases b with
          | true => exact key true hv _ (h.lb hv) (by cases want <;> simpa using he)
          | false => exact key false hv _ (h.lb hv) (by cases want <;> simpa using he)
        · simp at he
end
end Go.Ev

namespace Go.Ev

/-! ### Names -/
def Asg.le (g g' : Asg) : Prop := ∀ j x, g.find j = some x → g'.find j = some x
def Asg.inj (g : Asg) : Prop := ∀ i j id p q, g.find i = some (id, p) → g.find j = some (id, q) → i = j
theorem Asg.le_refl (g : Asg) : g.le g := fun _ _ h => h
theorem Asg.le_trans {g1 g2 g3 : Asg} (h : g1.le g2) (k : g2.le g3) : g1.le g3 := fun j x e => k j x (h j x e)

theorem same_eq : ∀ {p q : Path}, Path.same p q = true → p = q ∧ Path.lit p = true
  | [], [], _ => ⟨rfl, rfl⟩
  | .l :: p, .l :: q, h => by have := same_eq (p := p) (q := q) h; exact ⟨by rw [this.1], this.2⟩
  | .r :: p, .r :: q, h => by have := same_eq (p := p) (q := q) h; exact ⟨by rw [this.1], this.2⟩
  | .o :: p, .o :: q, h => by have := same_eq (p := p) (q := q) h; exact ⟨by rw [this.1], this.2⟩
  | .d :: p, .d :: q, h => by have := same_eq (p := p) (q := q) h; exact ⟨by rw [this.1], this.2⟩

theorem asg_mem {g : Asg} {j : Nat} {x : Nat × Path} (h : g.find j = some x) : (j, x) ∈ g := by
  unfold Asg.find at h
  simp only [Option.map_eq_some_iff] at h
  obtain ⟨a, h1, rfl⟩ := h
  have := List.find?_some h1
  simp only [beq_iff_eq] at this
  subst this
  exact List.mem_of_find?_eq_some h1

theorem find_app {g : Asg} {j : Nat} (a : Nat × Nat × Path) (h : g.find a.1 = none) : (g ++ [a]).find j = if j = a.1 then some a.2 else g.find j := by
  unfold Asg.find at *
  simp only [Option.map_eq_none_iff] at h
  rw [List.find?_append]
  by_cases e : j = a.1
  · subst e; rw [h, if_pos rfl]; simp
  · rw [if_neg e]
    have : ((a.1 == j) = false) := by simp; exact fun h => e h.symm
    simp [this]

theorem add_ok {g g' : Asg} {j id : Nat} {p : Path} (h : g.add j id p = some g') : g.le g' ∧ g'.find j = some (id, p) ∧ (g.inj → g'.inj) := by
  unfold Asg.add at h
  split at h
  · rename_i id' p' hf
    split at h
    · rename_i hc
      simp only [Bool.and_eq_true, beq_iff_eq] at hc
      simp only [Option.some.injEq] at h
      subst h
      obtain ⟨rfl, hs⟩ := hc
      obtain ⟨rfl, _⟩ := same_eq hs
      exact ⟨Asg.le_refl g, hf, fun h => h⟩
    · simp at h
  · rename_i hf
    split at h
    · simp at h
    · rename_i hany
      simp only [Option.some.injEq] at h
      subst h
      have key : ∀ k, (g ++ [(j, id, p)]).find k = if k = j then some (id, p) else g.find k := fun k => find_app (j, id, p) hf
      have hno : ∀ k q, g.find k ≠ some (id, q) := fun k q hk => hany (by rw [List.any_eq_true]; exact ⟨_, asg_mem hk, by simp⟩)
      refine ⟨fun k x hk => ?_, by rw [key, if_pos rfl], fun hi a b id' p1 p2 h1 h2 => ?_⟩
      · rw [key, if_neg]; exact hk
        intro e; subst e; rw [hf] at hk; simp at hk
      · rw [key] at h1 h2
        split at h1
        · rename_i e1
          simp only [Option.some.injEq, Prod.mk.injEq] at h1
          obtain ⟨rfl, rfl⟩ := h1
          split at h2
          · rename_i e2; rw [e1, e2]
          · exact absurd h2 (hno _ _)
        · split at h2
          · simp only [Option.some.injEq, Prod.mk.injEq] at h2
            obtain ⟨rfl, rfl⟩ := h2
            exact absurd h1 (hno _ _)
          · exact hi a b id' p1 p2 h1 h2

theorem unbox_eq : ∀ {p q : Path}, Path.unbox p = some q → p = q ++ [.d]
  | [], _, h => by simp [Path.unbox] at h
  | [s], q, h => by
    cases s <;> simp [Path.unbox] at h <;> subst h <;> rfl
  | s :: t :: p, q, h => by
    have h : (Path.unbox (t :: p)).map (s :: ·) = some q := by
      cases s <;> exact h
    simp only [Option.map_eq_some_iff] at h
    obtain ⟨q', h1, rfl⟩ := h
    rw [unbox_eq h1]; rfl

/-! ### Places along plain ways -/
theorem lit_inb : ∀ {p : Path} (_ : Path.lit p = true) (t : Ty) (x : t.den), Inb t x p
  | [], _, t, x => inb_nil t x
  | s :: p, h, t, x => by
    cases s
    case «at» => simp [Path.lit] at h
    all_goals
      have h : Path.lit p = true := h
      cases t <;> first | exact trivial | exact lit_inb h _ _

theorem may_handle {m : Nat → Nat → Bool} {t u : Ty} (h : t.may m u = true) (hu : u.handle = true) : t.handle = true ∧ t.hk = u.hk := by
  cases u <;> simp [Ty.handle] at hu <;> cases t <;> simp [Ty.may] at h <;> simp only [Ty.handle, Ty.hk, true_and]
  rw [may_width h.1]

theorem may_spot {m : Nat → Nat → Bool} {w : World} : ∀ (p : Path) {t t' : Ty} (x : t.den) (x' : t'.den) (cs : List Value) (h : Bool) (b : Option Nat) (o : Nat) {u : TV}, t.may m t' = true → Path.lit p = true → t'.get x' p = some u →
    (∃ v, t.get x p = some v ∧ v.t.may m u.t = true) ∧ spot w t' cs h b o p = spot w t cs h b o p
  | [], t, t', x, x', cs, h, b, o, u, hm, hl, hg => by
    simp only [Ty.get, Option.some.injEq] at hg
    subst hg
    exact ⟨⟨⟨t, x⟩, by simp [Ty.get], hm⟩, by rw [spot_nil, spot_nil]⟩
  | s :: p, t, t', x, x', cs, h, b, o, u, hm, hl, hg => by
    cases s
    case «at» => simp [Path.lit] at hl
    all_goals
      have hl : Path.lit p = true := hl
      cases t' <;> simp only [Ty.get, reduceCtorEq] at hg
      cases t <;> simp [Ty.may] at hm
      simp only [Ty.get, spot]
    · rw [may_width hm.1]; exact may_spot p _ _ _ _ _ _ hm.1 hl hg
    · rw [may_width hm.1]; exact may_spot p _ _ _ _ _ _ hm.2 hl hg
    · exact may_spot p _ _ _ _ _ _ hm hl hg
    · rename_i tb ta
      exact ⟨(may_spot (t := ta) (t' := tb) (w := w) p _ _ cs h b o hm hl hg).1, by
        cases hdrBlk w cs with
        | none => rfl
        | some e => exact (may_spot (t := ta) (t' := tb) (w := w) p x x' _ _ _ _ hm hl hg).2⟩
end Go.Ev

namespace Go.Ev

/-- The objects of a shape lie in those that there are. -/
def Lays (w : World) (σ : Nat → Value) (H : Heap) (g : Asg) (σn : Nat → Value) (Hn : Heap) : Prop :=
  ∀ j id q, g.find j = some (id, q) → ∀ obn, Hn j = some obn → ∃ ob v s, H id = some ob ∧ ob.t.get ob.x q = some v ∧ Path.lit q = true ∧ spot w ob.t [σ id] false none 0 q = some s ∧ s.cells = [σn j] ∧
    ∃ m, v.t.may m obn.t = true

theorem Lays.less {w : World} {σ : Nat → Value} {H : Heap} {g g' : Asg} {σn : Nat → Value} {Hn : Heap} (h : Lays w σ H g' σn Hn) (k : g.le g') : Lays w σ H g σn Hn := fun j id q hf => h j id q (k _ _ hf)

abbrev AvX (w : World) (I : Imm) (σ : Nat → Value) (H : Heap) (b : Bool) (a : AV) (cs : List Value) : Prop := if b = true then AvL w I σ H a cs else AvC w I σ H a cs

theorem fill_T : ∀ (s : AV) (x : HL s.leaves), isT (s.fill x) = isT s := by intro s x; cases s <;> rfl
theorem fill_agg : ∀ (s : AV) (x : HL s.leaves), (s.fill x).agg = s.agg := by intro s x; cases s <;> rfl
theorem erase_agg {t u : Ty} (h : t.erase = u.erase) : t.isAgg = u.isAgg := by cases t <;> cases u <;> simp_all [Ty.erase, Ty.isAgg]

theorem dat_shape {H H' : Heap} : ∀ {v : AV} {t : Ty} {x : t.den}, H.dat v t = some (x, H') → isT v = false ∧ v.agg = some t.isAgg := by
  intro v t x h
  cases v with
  | dat u y =>
    simp only [Heap.dat, Option.map_eq_some_iff] at h
    obtain ⟨_, h, _⟩ := h
    obtain ⟨_, he, _⟩ := as_some h
    exact ⟨rfl, by simp only [AV.agg]; rw [erase_agg he]⟩
  | lb b => cases t <;> simp [Heap.dat] at h; exact ⟨rfl, rfl⟩
  | slw id p ver =>
    simp only [Heap.dat, Option.bind_eq_some_iff, Option.map_eq_some_iff] at h
    obtain ⟨_, _, _, h, _⟩ := h
    obtain ⟨_, he, _⟩ := as_some h
    exact ⟨rfl, by rw [← erase_agg he]; rfl⟩
  | sub id p ver off len =>
    simp only [Heap.dat, Option.bind_eq_some_iff, Option.map_eq_some_iff] at h
    obtain ⟨_, _, _, h, _⟩ := h
    obtain ⟨_, he, _⟩ := as_some h
    exact ⟨rfl, by rw [← erase_agg he]; rfl⟩
  | nsl => cases t <;> simp [Heap.dat] at h; exact ⟨rfl, rfl⟩
  | one a => cases t <;> simp [Heap.dat] at h; exact ⟨rfl, rfl⟩
  | pair a b => cases t <;> simp [Heap.dat] at h; exact ⟨rfl, rfl⟩
  | any => simp [Heap.dat] at h
  | ptr id p q off ver => simp [Heap.dat] at h
  | vptr t x => simp [Heap.dat] at h
  | mp id p ver => simp [Heap.dat] at h
  | nil => simp [Heap.dat] at h
  | tnil => simp [Heap.dat] at h
  | tup a b => simp [Heap.dat] at h
  | clo f c => simp [Heap.dat] at h

section
variable {v : AV} {H : Heap} {g : Asg}
theorem mat_any : AV.any.mat v H g = some ((), H, g) := rfl
theorem mat_dat {t : Ty} {y : t.den} : (AV.dat t y).mat v H g = if t.pure then (H.dat v t).map fun (x, H') => ((x, ()), H', g) else none := rfl
theorem mat_lb {b : Bool} : (AV.lb b).mat v H g = none := rfl
theorem mat_vptr {t : Ty} {y : t.den} : (AV.vptr t y).mat v H g = none := rfl
theorem mat_ptr {j off' ver : Nat} {p' q' : Path} : (AV.ptr j p' q' off' ver).mat v H g = match v with
    | .ptr id p q off _ => (ptrName ver p' q' off' p q off).bind fun q => (g.add j id q).map fun g' => ((), H, g')
    | _ => none := rfl
theorem mat_slw {j ver : Nat} {p' : Path} : (AV.slw j p' ver).mat v H g = match v with
    | .slw id p _ => (hdrName ver p' p).bind fun q => (g.add j id q).map fun g' => ((), H, g')
    | _ => none := rfl
theorem mat_mp {j ver : Nat} {p' : Path} : (AV.mp j p' ver).mat v H g = match v with
    | .mp id p _ => (hdrName ver p' p).bind fun q => (g.add j id q).map fun g' => ((), H, g')
    | _ => none := rfl
theorem mat_sub {j ver : Nat} {p' : Path} {o l : Int} : (AV.sub j p' ver o l).mat v H g = match v with
    | .sub id p _ off len => (hdrName ver p' p).bind fun q => (g.add j id q).map fun g' => ((off, len, ()), H, g')
    | _ => none := rfl
theorem mat_nil : AV.nil.mat v H g = match v with
    | .nil => some ((), H, g)
    | _ => none := rfl
theorem mat_nsl : AV.nsl.mat v H g = match v with
    | .nsl => some ((), H, g)
    | _ => none := rfl
theorem mat_tnil : AV.tnil.mat v H g = match v with
    | .tnil => some ((), H, g)
    | _ => none := rfl
theorem mat_one {a : AV} : (AV.one a).mat v H g = match v with
    | .one v => a.mat v H g
    | .dat (.one t) x => a.mat (.dat t x) H g
    | _ => none := rfl
theorem mat_pair {a b : AV} : (AV.pair a b).mat v H g = match v with
    | .pair v w => (a.mat v H g).bind fun (x, H1, g1) => (b.mat w H1 g1).map fun (y, H2, g2) => (HL.app _ _ x y, H2, g2)
    | .dat (.pair t u) x => (a.mat (.dat t x.1) H g).bind fun (y, H1, g1) => (b.mat (.dat u x.2) H1 g1).map fun (z, H2, g2) => (HL.app _ _ y z, H2, g2)
    | _ => none := rfl
theorem mat_tup {a b : AV} : (AV.tup a b).mat v H g = match v with
    | .tup v w => if isT b then (a.mat v H g).bind fun (x, H1, g1) => (b.mat w H1 g1).map fun (y, H2, g2) => (HL.app _ _ x y, H2, g2) else none
    | _ => none := rfl
theorem mat_clo {f : FuncId} {c : AV} : (AV.clo f c).mat v H g = match v with
    | .clo f' c' => if f == f' && isT c then c.mat c' H g else none
    | _ => none := rfl
end

theorem mat_shape {s v : AV} {H H' : Heap} {g g' : Asg} {x : HL s.leaves} (h : s.mat v H g = some (x, H', g')) : s = .any ∨ (isT s = isT v ∧ s.agg = v.agg) := by
  cases s with
  | any => exact .inl rfl
  | dat t y =>
    rw [mat_dat] at h
    split at h
    · simp only [Option.map_eq_some_iff, Prod.mk.injEq] at h
      obtain ⟨a, h, _⟩ := h
      obtain ⟨h1, h2⟩ := dat_shape (x := a.1) (H' := a.2) h
      exact .inr ⟨h1.symm, h2.symm⟩
    · simp at h
  | lb b => rw [mat_lb] at h; simp at h
  | vptr t y => rw [mat_vptr] at h; simp at h
  | one a => rw [mat_one] at h; cases v with
    | one => exact .inr ⟨rfl, rfl⟩
    | dat t y => cases t <;> first | exact .inr ⟨rfl, rfl⟩ | simp at h
    | _ => simp at h
  | pair a b => rw [mat_pair] at h; cases v with
    | pair => exact .inr ⟨rfl, rfl⟩
    | dat t y => cases t <;> first | exact .inr ⟨rfl, rfl⟩ | simp at h
    | _ => simp at h
  | ptr j p q off ver => rw [mat_ptr] at h; split at h <;> first | exact .inr ⟨rfl, rfl⟩ | simp at h
  | slw j p ver => rw [mat_slw] at h; split at h <;> first | exact .inr ⟨rfl, rfl⟩ | simp at h
  | sub j p ver off len => rw [mat_sub] at h; split at h <;> first | exact .inr ⟨rfl, rfl⟩ | simp at h
  | mp j p ver => rw [mat_mp] at h; split at h <;> first | exact .inr ⟨rfl, rfl⟩ | simp at h
  | nil => rw [mat_nil] at h; split at h <;> first | exact .inr ⟨rfl, rfl⟩ | simp at h
  | nsl => rw [mat_nsl] at h; split at h <;> first | exact .inr ⟨rfl, rfl⟩ | simp at h
  | tnil => rw [mat_tnil] at h; split at h <;> first | exact .inr ⟨rfl, rfl⟩ | simp at h
  | tup a b => rw [mat_tup] at h; split at h <;> first | exact .inr ⟨rfl, rfl⟩ | simp at h
  | clo f c => rw [mat_clo] at h; split at h <;> first | exact .inr ⟨rfl, rfl⟩ | simp at h
end Go.Ev

namespace Go.Ev

theorem ite_some {A : Type} {p : Prop} [Decidable p] {x : Option A} {y : A} (h : (if p then x else none) = some y) : p ∧ x = some y := by
  split at h
  · exact ⟨by assumption, h⟩
  · simp at h

theorem mat_g : ∀ (s : AV) {v : AV} {H H' : Heap} {g g' : Asg} {x : HL s.leaves}, s.mat v H g = some (x, H', g') → g.le g' ∧ (g.inj → g'.inj) := by
  have named : ∀ {A : Type} {o : Option Path} {g g' : Asg} {H H' : Heap} {j id : Nat} {x y : A}, (o.bind fun q => (g.add j id q).map fun g' => (y, H, g')) = some (x, H', g') → g.le g' ∧ (g.inj → g'.inj) := by
    intro A o g g' H H' j id x y h
    simp only [Option.bind_eq_some_iff, Option.map_eq_some_iff, Prod.mk.injEq] at h
    obtain ⟨q, _, g1, h1, _, _, rfl⟩ := h
    exact ⟨(add_ok h1).1, (add_ok h1).2.2⟩
  have same : ∀ {A : Type} {g g' : Asg} {H H' : Heap} {x y : A}, some (y, H, g) = some (x, H', g') → g.le g' ∧ (g.inj → g'.inj) := by
    intro A g g' H H' x y h
    simp only [Option.some.injEq, Prod.mk.injEq] at h
    obtain ⟨_, _, rfl⟩ := h
    exact ⟨Asg.le_refl _, fun h => h⟩
  have two : ∀ {a b : AV} {v w : AV} {H H' : Heap} {g g' : Asg} {x : HL (a.leaves ++ b.leaves)}, (∀ {v : AV} {H H' : Heap} {g g' : Asg} {x : HL a.leaves}, a.mat v H g = some (x, H', g') → g.le g' ∧ (g.inj → g'.inj)) →
      (∀ {v : AV} {H H' : Heap} {g g' : Asg} {x : HL b.leaves}, b.mat v H g = some (x, H', g') → g.le g' ∧ (g.inj → g'.inj)) →
      ((a.mat v H g).bind fun (x, H1, g1) => (b.mat w H1 g1).map fun (y, H2, g2) => (HL.app _ _ x y, H2, g2)) = some (x, H', g') → g.le g' ∧ (g.inj → g'.inj) := by
    intro a b v w H H' g g' x iha ihb h
    simp only [Option.bind_eq_some_iff, Option.map_eq_some_iff, Prod.mk.injEq] at h
    obtain ⟨⟨x1, H1, g1⟩, h1, ⟨y, H2, g2⟩, h2, _, _, rfl⟩ := h
    have k1 := iha h1
    have k2 := ihb h2
    exact ⟨Asg.le_trans k1.1 k2.1, fun h => k2.2 (k1.2 h)⟩
  intro s
  induction s with
  | any => intro v H H' g g' x h; rw [mat_any] at h; exact same h
  | dat t y =>
    intro v H H' g g' x h
    rw [mat_dat] at h
    split at h
    · simp only [Option.map_eq_some_iff, Prod.mk.injEq] at h
      obtain ⟨_, _, _, _, rfl⟩ := h
      exact ⟨Asg.le_refl _, fun h => h⟩
    · simp at h
  | lb b => intro v H H' g g' x h; rw [mat_lb] at h; simp at h
  | vptr t y => intro v H H' g g' x h; rw [mat_vptr] at h; simp at h
  | ptr j p q off ver => intro v H H' g g' x h; rw [mat_ptr] at h; cases v <;> first | exact named h | simp at h
  | slw j p ver => intro v H H' g g' x h; rw [mat_slw] at h; cases v <;> first | exact named h | simp at h
  | mp j p ver => intro v H H' g g' x h; rw [mat_mp] at h; cases v <;> first | exact named h | simp at h
  | sub j p ver o l => intro v H H' g g' x h; rw [mat_sub] at h; cases v <;> first | exact named h | simp at h
  | nil => intro v H H' g g' x h; rw [mat_nil] at h; cases v <;> first | exact same h | simp at h
  | nsl => intro v H H' g g' x h; rw [mat_nsl] at h; cases v <;> first | exact same h | simp at h
  | tnil => intro v H H' g g' x h; rw [mat_tnil] at h; cases v <;> first | exact same h | simp at h
  | one a ih =>
    intro v H H' g g' x h
    rw [mat_one] at h
    cases v with
    | one => exact ih h
    | dat t y => cases t <;> first | exact ih h | simp at h
    | _ => simp at h
  | pair a b iha ihb =>
    intro v H H' g g' x h
    rw [mat_pair] at h
    cases v with
    | pair => exact two iha ihb h
    | dat t y => cases t <;> first | exact two iha ihb h | simp at h
    | _ => simp at h
  | tup a b iha ihb =>
    intro v H H' g g' x h
    rw [mat_tup] at h
    cases v with
    | tup =>
      simp only at h
      split at h
      · exact two iha ihb h
      · simp at h
    | _ => simp at h
  | clo f c ih =>
    intro v H H' g g' x h
    rw [mat_clo] at h
    cases v with
    | clo => exact ih (ite_some (A := HL c.leaves × Heap × Asg) h).2
    | _ => simp at h

section
variable {n : Nat} {w : World} {I : Imm} {σ σn : Nat → Value} {H Hn : Heap} {g : Asg}

theorem Lays.get (L : Lays w σ H g σn Hn) {j id : Nat} {q : Path} (hf : g.find j = some (id, q)) {obn : Obj} (hn : Hn j = some obn) {ob : Obj} (ho : H id = some ob) :
    ∃ v s, ob.t.get ob.x q = some v ∧ Path.lit q = true ∧ spot w ob.t [σ id] false none 0 q = some s ∧ s.cells = [σn j] ∧ ∃ m, v.t.may m obn.t = true := by
  obtain ⟨ob', v, s, h1, h⟩ := L j id q hf obn hn
  rw [ho] at h1
  injection h1 with h1
  subst h1
  exact ⟨v, s, h⟩

theorem ptr_view (L : Lays w σ H g σn Hn) {j id ver ver' : Nat} {p p' q q' path : Path} {off off' : Nat} (hf : g.find j = some (id, path)) (hp : ptrName ver' p' q' off' p q off = some path)
    (hfit : (H.at false id p ver).isSome = true) {cs : List Value} (hc : AvC w I σ H (.ptr id p q off ver) cs) {I' : Imm} : AvC w I' σn Hn (.ptr j p' q' off' ver') cs := by
  obtain ⟨b, o, base, h1, h2, h3⟩ := hc
  rw [Option.isSome_iff_exists] at hfit
  obtain ⟨⟨ob, u⟩, hat⟩ := hfit
  obtain ⟨k1, k2, k3⟩ := heap_at hat
  have hP := (h3 ob k1).2 k2
  unfold ptrName at hp
  split at hp
  · simp at hp
  rename_i hv
  have hv : ver' = 0 := by simpa using hv
  subst hv
  split at hp
  · rename_i hs
    simp only [Bool.and_eq_true, beq_iff_eq, List.isEmpty_iff] at hs
    obtain ⟨⟨hs1, rfl⟩, rfl⟩ := hs
    obtain ⟨rfl, _⟩ := same_eq hs1
    split at hp
    · rename_i hs
      simp only [Bool.and_eq_true, beq_iff_eq, List.isEmpty_iff] at hs
      obtain ⟨rfl, rfl⟩ := hs
      have hpe := unbox_eq hp
      subst hpe
      refine ⟨b, o, base, h1, h2, fun obn hobn => ⟨Nat.zero_le _, fun _ => ?_⟩⟩
      obtain ⟨v, s, g1, g2, g3, g4, m, g5⟩ := L.get hf hobn k1
      intro un hun
      obtain ⟨tn, xn, evn⟩ := obn
      simp only at hun g5 ⊢
      cases tn with
      | box tn =>
        obtain ⟨vt, vx⟩ := v
        cases vt <;> simp [Ty.may] at g5
        rename_i t0
        obtain ⟨hi, s2, hs2, hb, ho⟩ := hP u k3
        refine ⟨by simp [Inb, inb_nil], ?_⟩
        rw [spot_append w path [.d] ob.t ob.x _ [σ id] false none 0 g1, g3] at hs2
        simp only [Option.bind_some, spot, g4] at hs2 ⊢
        rw [Option.bind_eq_some_iff] at hs2
        obtain ⟨e, he, hs2⟩ := hs2
        simp only [spot_nil, Option.some.injEq] at hs2
        subst hs2
        rw [he]
        exact ⟨_, by simp [spot_nil], hb, ho⟩
      | _ => simp [Ty.get] at hun
    · simp at hp
  · split at hp
    · rename_i hs
      simp only [Bool.and_eq_true, beq_iff_eq] at hs
      obtain ⟨⟨hs1, hs2⟩, rfl⟩ := hs
      obtain ⟨rfl, hl⟩ := same_eq hs1
      obtain ⟨rfl, _⟩ := same_eq hs2
      simp only [Option.some.injEq] at hp
      subst hp
      refine ⟨b, o, base, h1, h2, fun obn hobn => ⟨Nat.zero_le _, fun _ => ?_⟩⟩
      obtain ⟨v, s, g1, g2, g3, g4, m, g5⟩ := L.get hf hobn k1
      simp only [Ty.get, Option.some.injEq] at g1
      subst g1
      simp only [spot_nil, Option.some.injEq] at g3
      subst g3
      simp only [List.cons.injEq, and_true] at g4
      intro un hun
      obtain ⟨⟨v0, e1, e2⟩, e3⟩ := may_spot (w := w) p' ob.x obn.x [σn j] false none 0 g5 hl hun
      obtain ⟨hi, s2, hs2, hb, ho⟩ := hP v0 e1
      exact ⟨lit_inb hl _ _, s2, by rw [e3, ← g4]; exact hs2, hb, ho⟩
    · simp at hp

theorem hdr_view (L : Lays w σ H g σn Hn) {j id ver ver' : Nat} {p p' path : Path} (hf : g.find j = some (id, path)) (hp : hdrName ver' p' p = some path)
    (hfit : (H.at true id p ver).isSome = true) {v : Value} {k : Nat} (hc : ∀ ob, H id = some ob → ver ≤ ob.ev.length ∧ (ob.ok true p ver = true → HdrC w σ id ob p v k)) :
    ver' = 0 ∧ ∀ obn, Hn j = some obn → HdrC w σn j obn p' v k := by
  rw [Option.isSome_iff_exists] at hfit
  obtain ⟨⟨ob, u⟩, hat⟩ := hfit
  obtain ⟨k1, k2, k3⟩ := heap_at hat
  have hP := (hc ob k1).2 k2
  unfold hdrName at hp
  split at hp
  · simp at hp
  rename_i hv
  refine ⟨by simpa using hv, fun obn hobn => ?_⟩
  obtain ⟨v0, s, g1, g2, g3, g4, m, g5⟩ := L.get hf hobn k1
  split at hp
  · rename_i hs
    simp only [List.isEmpty_iff] at hs
    subst hs
    simp only [Option.some.injEq] at hp
    subst hp
    intro un hun hh
    simp only [Ty.get, Option.some.injEq] at hun
    subst hun
    obtain ⟨e1, e2⟩ := may_handle g5 hh
    obtain ⟨hi, hk, s2, hs2, hcs⟩ := hP v0 g1 e1
    rw [g3] at hs2
    injection hs2 with hs2
    subst hs2
    exact ⟨inb_nil _ _, by rw [← e2, hk], _, spot_nil _ _ _ _ _ _, by rw [← hcs, g4]⟩
  · split at hp
    · rename_i hs
      obtain ⟨rfl, hl⟩ := same_eq hs
      simp only [Option.some.injEq] at hp
      subst hp
      simp only [Ty.get, Option.some.injEq] at g1
      subst g1
      simp only [spot_nil, Option.some.injEq] at g3
      subst g3
      simp only [List.cons.injEq, and_true] at g4
      intro un hun hh
      obtain ⟨⟨v0, e1, e2⟩, e3⟩ := may_spot (w := w) p' ob.x obn.x [σn j] false none 0 g5 hl hun
      obtain ⟨f1, f2⟩ := may_handle e2 hh
      obtain ⟨hi, hk, s2, hs2, hcs⟩ := hP v0 e1 f1
      exact ⟨lit_inb hl _ _, by rw [← f2, hk], s2, by rw [e3, ← g4]; exact hs2, hcs⟩
    · simp at hp
end
end Go.Ev

namespace Go.Ev

theorem HL.fst_app : ∀ (a b : List Ty) (x : HL a) (y : HL b), HL.fst a b (HL.app a b x y) = x
  | [], _, _, _ => rfl
  | _ :: a, b, x, y => by simp only [HL.app, HL.fst]; rw [HL.fst_app a b]
theorem HL.snd_app : ∀ (a b : List Ty) (x : HL a) (y : HL b), HL.snd a b (HL.app a b x y) = y
  | [], _, _, _ => rfl
  | _ :: a, b, x, y => by simp only [HL.app, HL.snd]; rw [HL.snd_app a b]

theorem some3 {A B C : Type} {a x : A} {b y : B} {c z : C} (h : some (a, b, c) = some (x, y, z)) : a = x ∧ b = y ∧ c = z := by simpa using h
theorem pair3 {A B C : Type} {a x : A} {b y : B} {c z : C} (h : (a, b, c) = (x, y, z)) : a = x ∧ b = y ∧ c = z := by simpa using h

section
variable {S : Start} {n : Nat} {σ : Nat → Value} {w : World} {loose : List Nat}

/-- What a value held against a shape says. -/
def MatOk (S : Start) (n : Nat) (w : World) (σ : Nat → Value) (loose : List Nat) (s v : AV) (H : Heap) (x : HL s.leaves) (H' : Heap) (g' : Asg) (b : Bool) : Prop :=
  ∀ (cs : List Value) (I : Imm) (own : Own), Inv S n w I σ H own loose → (∀ id ∈ v.ids, id < n) → AvX w I σ H b v cs →
    ∃ I' own', Ghost S n w I σ H own loose I' H' own' loose ∧ ∀ (I'' : Imm) (H'' : Heap) (g'' : Asg) (σn : Nat → Value) (Hn : Heap), Pres n w I' σ H' w I'' σ H'' → g'.le g'' → Lays w σ H'' g'' σn Hn → s.fit H'' v = true →
      AvX w I'' σn Hn b (s.fill x) cs

/-- Of one value. -/
theorem MatOk.one {s v : AV} {H H' : Heap} {g g' : Asg} {x : HL s.leaves} (hm : s.mat v H g = some (x, H', g')) (h : ∀ b, (b = true → isT s = true) → MatOk S n w σ loose s v H x H' g' b)
    {val : Value} {I : Imm} {own : Own} (R : Inv S n w I σ H own loose) (hi : ∀ id ∈ v.ids, id < n) (hv : AvV w I σ H v val) :
    ∃ I' own', Ghost S n w I σ H own loose I' H' own' loose ∧ ∀ (I'' : Imm) (H'' : Heap) (g'' : Asg) (σn : Nat → Value) (Hn : Heap), Pres n w I' σ H' w I'' σ H'' → g'.le g'' → Lays w σ H'' g'' σn Hn → s.fit H'' v = true →
      AvV w I'' σn Hn (s.fill x) val := by
  rcases mat_shape hm with rfl | ⟨h1, h2⟩
  · rw [mat_any] at hm
    obtain ⟨_, rfl, rfl⟩ := some3 hm
    exact ⟨I, own, Ghost.refl R, fun _ _ _ _ _ _ _ _ _ => avv_any⟩
  · by_cases ht : isT v = true
    · obtain ⟨l, e, hl⟩ := hv.1 ht
      obtain ⟨I', own', k1, k2⟩ := h true (fun _ => by rw [h1, ht]) l I own R hi (by simpa [AvX] using hl)
      refine ⟨I', own', k1, fun I'' H'' g'' σn Hn a1 a2 a3 a4 => ⟨fun _ => ⟨l, e, ?_⟩, fun hf => ?_⟩⟩
      · simpa [AvX] using k2 I'' H'' g'' σn Hn a1 a2 a3 a4
      · rw [fill_T, h1, ht] at hf; simp at hf
    · have ht : isT v = false := by simpa using ht
      obtain ⟨hc, ha⟩ := hv.2 ht
      obtain ⟨I', own', k1, k2⟩ := h false (fun e => by simp at e) _ I own R hi (by simpa [AvX] using hc)
      refine ⟨I', own', k1, fun I'' H'' g'' σn Hn a1 a2 a3 a4 => ⟨fun hf => ?_, fun _ => ⟨?_, ?_⟩⟩⟩
      · rw [fill_T, h1, ht] at hf; simp at hf
      · simpa [AvX] using k2 I'' H'' g'' σn Hn a1 a2 a3 a4
      · rw [fill_agg, h2]; exact ha

theorem mat_ok : ∀ (s : AV) {v : AV} {H H' : Heap} {g g' : Asg} {x : HL s.leaves} (b : Bool), (b = true → isT s = true) → s.mat v H g = some (x, H', g') → MatOk S n w σ loose s v H x H' g' b := by
  intro s
  induction s with
  | any =>
    intro v H H' g g' x b hb h cs I own R hi hv
    rw [mat_any] at h
    obtain ⟨_, rfl, rfl⟩ := some3 h
    refine ⟨I, own, Ghost.refl R, fun _ _ _ _ _ _ _ _ _ => ?_⟩
    cases b with
    | true => exact absurd (hb rfl) (by simp [isT])
    | false => exact trivial
  | dat t y =>
    intro v H H' g g' x b hb h cs I own R hi hv
    cases b with
    | true => exact absurd (hb rfl) (by simp [isT])
    | false =>
    rw [mat_dat] at h
    obtain ⟨hp, h⟩ := ite_some (A := HL [t] × Heap × Asg) h
    obtain ⟨⟨x', H1⟩, h1, h2⟩ := Option.map_eq_some_iff.1 h
    obtain ⟨rfl, rfl, rfl⟩ := pair3 h2
    obtain ⟨I', own', G, _, hr⟩ := dat_ok v R h1 hi hv
    exact ⟨I', own', G, fun I'' H'' g'' σn Hn a1 a2 a3 a4 => ⟨hp, hr.lift a1.imm hp⟩⟩
  | lb b => intro v H H' g g' x b hb h; rw [mat_lb] at h; simp at h
  | vptr t y => intro v H H' g g' x b hb h; rw [mat_vptr] at h; simp at h
  | ptr j p' q' off' ver' =>
    intro v H H' g g' x b hb h cs I own R hi hv
    cases b with
    | true => exact absurd (hb rfl) (by simp [isT])
    | false =>
    rw [mat_ptr] at h
    cases v with
    | ptr id p q off ver =>
      simp only [Option.bind_eq_some_iff, Option.map_eq_some_iff, Prod.mk.injEq] at h
      obtain ⟨path, h1, g1, h2, _, rfl, rfl⟩ := h
      refine ⟨I, own, Ghost.refl R, fun I'' H'' g'' σn Hn a1 a2 a3 a4 => ?_⟩
      exact ptr_view a3 (a2 _ _ (add_ok h2).2.1) h1 a4 ((AvR.pres a1 _ hi).1 _ hv)
    | _ => simp at h
  | slw j p' ver' =>
    intro v H H' g g' x b hb h cs I own R hi hv
    cases b with
    | true => exact absurd (hb rfl) (by simp [isT])
    | false =>
    rw [mat_slw] at h
    cases v with
    | slw id p ver =>
      simp only [Option.bind_eq_some_iff, Option.map_eq_some_iff, Prod.mk.injEq] at h
      obtain ⟨path, h1, g1, h2, _, rfl, rfl⟩ := h
      refine ⟨I, own, Ghost.refl R, fun I'' H'' g'' σn Hn a1 a2 a3 a4 => ?_⟩
      obtain ⟨ad, l, c, k, e1, e2⟩ := (AvR.pres a1 _ hi).1 _ hv
      obtain ⟨rfl, e3⟩ := hdr_view a3 (a2 _ _ (add_ok h2).2.1) h1 a4 e2
      exact ⟨ad, l, c, k, e1, fun obn hobn => ⟨Nat.zero_le _, fun _ => e3 obn hobn⟩⟩
    | _ => simp at h
  | mp j p' ver' =>
    intro v H H' g g' x b hb h cs I own R hi hv
    cases b with
    | true => exact absurd (hb rfl) (by simp [isT])
    | false =>
    rw [mat_mp] at h
    cases v with
    | mp id p ver =>
      simp only [Option.bind_eq_some_iff, Option.map_eq_some_iff, Prod.mk.injEq] at h
      obtain ⟨path, h1, g1, h2, _, rfl, rfl⟩ := h
      refine ⟨I, own, Ghost.refl R, fun I'' H'' g'' σn Hn a1 a2 a3 a4 => ?_⟩
      obtain ⟨rr, k, e1, e2⟩ := (AvR.pres a1 _ hi).1 _ hv
      obtain ⟨rfl, e3⟩ := hdr_view a3 (a2 _ _ (add_ok h2).2.1) h1 a4 e2
      exact ⟨rr, k, e1, fun obn hobn => ⟨Nat.zero_le _, fun _ => e3 obn hobn⟩⟩
    | _ => simp at h
  | sub j p' ver' off' len' =>
    intro v H H' g g' x b hb h cs I own R hi hv
    cases b with
    | true => exact absurd (hb rfl) (by simp [isT])
    | false =>
    rw [mat_sub] at h
    cases v with
    | sub id p ver off len =>
      simp only [Option.bind_eq_some_iff, Option.map_eq_some_iff, Prod.mk.injEq] at h
      obtain ⟨path, h1, g1, h2, rfl, rfl, rfl⟩ := h
      refine ⟨I, own, Ghost.refl R, fun I'' H'' g'' σn Hn a1 a2 a3 a4 => ?_⟩
      obtain ⟨ad, l, c, ha, hl, hc, k, e1, f1, f2, f3, f4, f5, f6, e2⟩ := (AvR.pres a1 _ hi).1 _ hv
      obtain ⟨rfl, e3⟩ := hdr_view a3 (a2 _ _ (add_ok h2).2.1) h1 a4 e2
      exact ⟨ad, l, c, ha, hl, hc, k, e1, f1, f2, f3, f4, f5, f6, fun obn hobn => ⟨Nat.zero_le _, fun _ => e3 obn hobn⟩⟩
    | _ => simp at h
  | nil =>
    intro v H H' g g' x b hb h cs I own R hi hv
    cases b with
    | true => exact absurd (hb rfl) (by simp [isT])
    | false =>
    rw [mat_nil] at h
    cases v with
    | nil =>
      simp only [Option.some.injEq, Prod.mk.injEq] at h
      obtain ⟨_, rfl, rfl⟩ := h
      exact ⟨I, own, Ghost.refl R, fun I'' H'' g'' σn Hn a1 a2 a3 a4 => hv⟩
    | _ => simp at h
  | nsl =>
    intro v H H' g g' x b hb h cs I own R hi hv
    cases b with
    | true => exact absurd (hb rfl) (by simp [isT])
    | false =>
    rw [mat_nsl] at h
    cases v with
    | nsl =>
      simp only [Option.some.injEq, Prod.mk.injEq] at h
      obtain ⟨_, rfl, rfl⟩ := h
      exact ⟨I, own, Ghost.refl R, fun I'' H'' g'' σn Hn a1 a2 a3 a4 => hv⟩
    | _ => simp at h
  | tnil =>
    intro v H H' g g' x b hb h cs I own R hi hv
    rw [mat_tnil] at h
    cases v with
    | tnil =>
      simp only [Option.some.injEq, Prod.mk.injEq] at h
      obtain ⟨_, rfl, rfl⟩ := h
      exact ⟨I, own, Ghost.refl R, fun I'' H'' g'' σn Hn a1 a2 a3 a4 => hv⟩
    | _ => simp at h
  | one a ih =>
    intro v H H' g g' x b hb h cs I own R hi hv
    cases b with
    | true => exact absurd (hb rfl) (by simp [isT])
    | false =>
    rw [mat_one] at h
    cases v with
    | one v => exact ih false (by simp) h cs I own R hi hv
    | dat t y =>
      cases t with
      | one t =>
        obtain ⟨I', own', k1, k2⟩ := ih false (by simp) h cs I own R hi (show AvC w I σ H (.dat t y) cs from hv)
        exact ⟨I', own', k1, fun I'' H'' g'' σn Hn a1 a2 a3 a4 => k2 I'' H'' g'' σn Hn a1 a2 a3 (by cases a <;> first | rfl | exact a4)⟩
      | _ => simp at h
    | _ => simp at h
  | pair a b iha ihb =>
    intro v H H' g g' x bb hb h cs I own R hi hv
    cases bb with
    | true => exact absurd (hb rfl) (by simp [isT])
    | false =>
    rw [mat_pair] at h
    cases v with
    | pair v1 v2 =>
      simp only [Option.bind_eq_some_iff, Option.map_eq_some_iff, Prod.mk.injEq] at h
      obtain ⟨⟨x1, H1, g1⟩, h1, ⟨y, H2, g2⟩, h2, rfl, rfl, rfl⟩ := h
      obtain ⟨c1, c2, rfl, e1, e2⟩ := hv
      obtain ⟨I1, own1, k1, k2⟩ := iha false (by simp) h1 c1 I own R (fun id hid => hi id (by simp [AV.ids, hid])) e1
      obtain ⟨I2, own2, k3, k4⟩ := ihb false (by simp) h2 c2 I1 own1 k1.inv (fun id hid => hi id (by simp [AV.ids, hid])) ((AvR.pres k1.pres _ fun id hid => hi id (by simp [AV.ids, hid])).1 _ e2)
      refine ⟨I2, own2, k1.trans k3, fun I'' H'' g'' σn Hn a1 a2 a3 a4 => ?_⟩
      simp only [AV.fit, Bool.and_eq_true] at a4
      refine ⟨c1, c2, rfl, ?_, ?_⟩
      · rw [HL.fst_app]; exact k2 I'' H'' g'' σn Hn (k3.pres.trans a1) (Asg.le_trans (mat_g b h2).1 a2) a3 a4.1
      · rw [HL.snd_app]; exact k4 I'' H'' g'' σn Hn a1 a2 a3 a4.2
    | dat t y =>
      cases t with
      | pair t u =>
        simp only [Option.bind_eq_some_iff, Option.map_eq_some_iff, Prod.mk.injEq] at h
        obtain ⟨⟨x1, H1, g1⟩, h1, ⟨y2, H2, g2⟩, h2, rfl, rfl, rfl⟩ := h
        obtain ⟨hp, c1, c2, o1, o2, rfl, ho, e1, e2⟩ := hv
        simp only [Ty.pure, Bool.and_eq_true] at hp
        have ho1 : o1 = [] := (List.append_eq_nil_iff.1 ho.symm).1
        have ho2 : o2 = [] := (List.append_eq_nil_iff.1 ho.symm).2
        subst ho1; subst ho2
        obtain ⟨I1, own1, k1, k2⟩ := iha false (by simp) h1 c1 I own R (by simp [AV.ids]) (show AvC w I σ H (.dat t y.1) c1 from ⟨hp.1, e1⟩)
        obtain ⟨I2, own2, k3, k4⟩ := ihb false (by simp) h2 c2 I1 own1 k1.inv (by simp [AV.ids]) (show AvC w I1 σ H1 (.dat u y.2) c2 from ⟨hp.2, e2.lift k1.pres.imm hp.2⟩)
        refine ⟨I2, own2, k1.trans k3, fun I'' H'' g'' σn Hn a1 a2 a3 a4 => ?_⟩
        refine ⟨c1, c2, rfl, ?_, ?_⟩
        · rw [HL.fst_app]; exact k2 I'' H'' g'' σn Hn (k3.pres.trans a1) (Asg.le_trans (mat_g b h2).1 a2) a3 (by cases a <;> rfl)
        · rw [HL.snd_app]; exact k4 I'' H'' g'' σn Hn a1 a2 a3 (by cases b <;> rfl)
      | _ => simp at h
    | _ => simp at h
  | tup a b iha ihb =>
    intro v H H' g g' x bb hb h cs I own R hi hv
    rw [mat_tup] at h
    cases v with
    | tup v1 v2 =>
      cases bb with
      | false => exact (show False from hv).elim
      | true =>
      obtain ⟨ht, h⟩ := ite_some (A := HL (a.leaves ++ b.leaves) × Heap × Asg) h
      obtain ⟨⟨x1, H1, g1⟩, h1, h⟩ := Option.bind_eq_some_iff.1 h
      obtain ⟨⟨y, H2, g2⟩, h2, h⟩ := Option.map_eq_some_iff.1 h
      obtain ⟨rfl, rfl, rfl⟩ := pair3 h
      obtain ⟨val, r, rfl, e1, e2⟩ := hv
      obtain ⟨I1, own1, k1, k2⟩ := MatOk.one h1 (fun b hb => iha b hb h1) R (fun id hid => hi id (by simp [AV.ids, hid])) e1
      obtain ⟨I2, own2, k3, k4⟩ := ihb true (fun _ => ht) h2 r I1 own1 k1.inv (fun id hid => hi id (by simp [AV.ids, hid])) ((AvR.pres k1.pres _ fun id hid => hi id (by simp [AV.ids, hid])).2 _ e2)
      refine ⟨I2, own2, k1.trans k3, fun I'' H'' g'' σn Hn a1 a2 a3 a4 => ?_⟩
      simp only [AV.fit, Bool.and_eq_true] at a4
      refine ⟨val, r, rfl, ?_, ?_⟩
      · rw [HL.fst_app]; exact k2 I'' H'' g'' σn Hn (k3.pres.trans a1) (Asg.le_trans (mat_g b h2).1 a2) a3 a4.1
      · rw [HL.snd_app]; exact k4 I'' H'' g'' σn Hn a1 a2 a3 a4.2
    | _ => simp at h
  | clo f c ih =>
    intro v H H' g g' x b hb h cs I own R hi hv
    cases b with
    | true => exact absurd (hb rfl) (by simp [isT])
    | false =>
    rw [mat_clo] at h
    cases v with
    | clo f' c' =>
      obtain ⟨hc, h5⟩ := ite_some (A := HL c.leaves × Heap × Asg) h
      clear h
      simp only [Bool.and_eq_true, beq_iff_eq] at hc
      obtain ⟨rfl, hc⟩ := hc
      obtain ⟨l, rfl, hl⟩ := hv
      obtain ⟨I', own', k1, k2⟩ := ih (v := c') true (fun _ => hc) h5 l I own R hi hl
      exact ⟨I', own', k1, fun I'' H'' g'' σn Hn a1 a2 a3 a4 => ⟨l, rfl, k2 I'' H'' g'' σn Hn a1 a2 a3 a4⟩⟩
    | _ => simp at h
end
end Go.Ev

