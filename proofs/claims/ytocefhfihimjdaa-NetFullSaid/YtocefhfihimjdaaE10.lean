/- A way to show what code computes: part 10: no condition. -/
import Derived.Test.YtocefhfihimjdaaE9
import Derived.Laws.Sem
set_option linter.unusedVariables false
namespace Go.Ev

theorem HL.pk_inj : ∀ (ts : List Ty) {x y : HL ts}, HL.pk ts x = HL.pk ts y → x = y := fun ts x y h => by rw [← HL.un_pk ts x, h, HL.un_pk]

theorem fill_ids : ∀ (v : AV) (x : HL v.leaves), (v.fill x).ids = v.ids := by
  intro v
  induction v with
  | one a ih => intro x; exact ih x
  | pair a b iha ihb => intro x; simp only [AV.fill, AV.ids]; rw [iha, ihb]
  | tup a b iha ihb => intro x; simp only [AV.fill, AV.ids]; rw [iha, ihb]
  | clo g c ih => intro x; exact ih x
  | _ => intro x; rfl

theorem fillVals_ids : ∀ (vs : List (Nat × AV)) (x : HL (valsLeaves vs)) (t : Nat), ∀ id ∈ (fillVals vs x t).ids, ∃ v ∈ vs, id ∈ v.2.ids
  | [], _, _, id, h => by simp [fillVals, AV.ids] at h
  | (t0, v) :: r, x, t, id, h => by
    simp only [fillVals] at h
    split at h
    · rw [fill_ids] at h; exact ⟨(t0, v), by simp, h⟩
    · obtain ⟨u, h1, h2⟩ := fillVals_ids r _ t id h; exact ⟨u, by simp [h1], h2⟩

theorem fillObjs_t : ∀ (js : List (Nat × Ty)) (x y : HL (js.map (·.2))) {j : Nat} {o o' : Obj}, fillObjs js x j = some o → fillObjs js y j = some o' → o.t = o'.t
  | [], _, _, _, _, _, h, _ => by simp [fillObjs] at h
  | (i, t) :: r, x, y, j, o, o', h, k => by
    simp only [fillObjs] at h k
    by_cases e : j = i
    · rw [if_pos e] at h k
      simp only [Option.some.injEq] at h k
      subst h; subst k; rfl
    · rw [if_neg e] at h k
      exact fillObjs_t r x.2 y.2 h k

theorem is_find {g : Asg} {j id : Nat} (h : g.is j id = true) : g.find j = some (id, []) := by
  unfold Asg.is at h
  split at h
  · rename_i id' e; simp only [beq_iff_eq] at h; subst h; exact e
  · simp at h

/-- The names of a shape are known. -/
structure Shape.okN (s : Shape) (n : Nat) : Prop where
  objs : ∀ a ∈ s.objs, a.1 < n ∧ ∀ j ∈ a.2.refs, j < n
  vals : ∀ v ∈ s.vals, ∀ id ∈ v.2.ids, id < n

theorem Shape.okN.lt {s : Shape} {n : Nat} (h : s.okN n) {x : HL s.leaves} {j : Nat} {o : Obj} (hj : s.heapOf x j = some o) : j < n ∧ ∀ i ∈ o.t.refs, i < n := by
  obtain ⟨a, h1, rfl, h3⟩ := fillObjs_mem _ _ hj
  rw [← h3]
  exact h.objs a h1

theorem Told.trel {S : Start} {n n' : Nat} {w : World} {I : Imm} {σ : Nat → Value} {own : Own} {loose : List Nat} {st : St} {a : Act} {s : Shape} {x : HL s.leaves} {H1 : Heap} {g : Asg} {I1 : Imm} {own1 : Own} {σn : Nat → Value} {I2 : Imm} {ownN : Own} {X : List Nat} {g0 : Asg} {ouF : Nat → List Nat}
    (D : Told S n w I σ own loose st g0 (fun t => a.tmps.getD t undef) s x H1 g I1 own1 σn I2 ownN X ouF) (h : s.okN n') : TRel n' w I2 σn (s.give (HL.pk _ x)) a := by
  rw [give_eq]
  exact ⟨D.vals, fun t id hid => by obtain ⟨v, h1, h2⟩ := fillVals_ids _ _ t id hid; exact h.vals v h1 id h2⟩

/-- The head of a loop, with its shape. -/
structure LoopAt (S : Start) (n : Nat) (s : Shape) (w0 : World) (σe : Nat → Value) (H0 : Heap) (I1 : Imm) (own1 : Own) (SL : Start) : Prop where
  head : Head S n s w0 σe H0 I1 own1 SL
  ok : s.okN n
  bx : ∀ id o', SL.H id = some o' → ∀ x o, s.heapOf x id = some o → isBox o.t = true
  dom : ∀ id o', SL.H id = some o' → id < n

section
variable {S : Start} {B : Base} {m n n' : Nat} {w : World} {st : St} {a : Act}

theorem enter_ok {s : Shape} {x0 : Tys s.leaves} {H0 : Heap} (h : At S B m n w st a) (he : s.enter st n = some (x0, H0)) :
    ∃ σe I1 own1 SL x I2 σn ownN, x0 = HL.pk _ x ∧ LoopAt S n s w σe H0 I1 own1 SL ∧ Pres B.n B.w B.I B.σ B.H w I1 σe H0 ∧ Round n s σe SL x w I2 σn ownN ∧ TRel n w I2 σn (s.give x0) a := by
  obtain ⟨I, σ, own, loose, R, T, P⟩ := h.ex
  unfold Shape.enter at he
  obtain ⟨⟨x, H, g⟩, h1, he⟩ := Option.bind_eq_some_iff.1 he
  obtain ⟨hc, he⟩ := ite_some he
  simp only [Option.some.injEq, Prod.mk.injEq] at he
  obtain ⟨rfl, rfl⟩ := he
  simp only [Bool.and_eq_true, List.all_eq_true, decide_eq_true_eq, beq_iff_eq, List.isEmpty_iff] at hc
  obtain ⟨⟨hc1, hc2⟩, hc3⟩ := hc
  obtain ⟨I1, own1, σn, I2, ownN, X, ouF, D⟩ := tell_ok (val := fun t => a.tmps.getD t undef) R (fun t => ⟨T.val t, T.ids t⟩) (fun i j id p q h => by simp [Asg.find] at h) h1
  have hok : s.okN n := ⟨fun a ha => ⟨(hc1 a ha).1.2, (hc1 a ha).2⟩, hc3⟩
  have hself : ∀ j, s.has j = true → g.find j = some (j, []) := fun j hj => by
    obtain ⟨a, h1, h2⟩ := List.any_eq_true.1 hj
    simp only [beq_iff_eq] at h2
    subst h2
    exact is_find (hc1 a h1).1.1
  have hid : ∀ j x, g.find j = some x → x = (j, []) := fun j x hx => by
    obtain ⟨h1, h2⟩ := hc2 _ (asg_mem hx)
    exact Prod.ext h1 h2
  have hnames : ∀ j, σn j = σ j := fun j => by
    cases hf : g.find j with
    | none => exact D.none j hf
    | some x => rw [hid j x hf] at hf; exact D.names.1 j j hf
  have hobj : ∀ j o, s.heapOf x j = some o → ∃ ob m, H j = some ob ∧ ob.t.may m o.t = true := fun j o hj => by
    obtain ⟨_, id, q, ob, v, s', pre, post, lh, e1, e2, e3, e4, F, e6, ⟨m, e7⟩, e8, e9⟩ := D.objs j o hj
    have := hid j _ e1
    simp only [Prod.mk.injEq] at this
    obtain ⟨rfl, rfl⟩ := this
    simp only [Ty.get, Option.some.injEq] at e4
    subst e4
    exact ⟨ob, m, e2, e7⟩
  let SL : Start := ⟨w, I2, σn, fun j => match s.heapOf x j with | some o => if isBox o.t then some o else none | none => none, fun b => ∃ id o, H id = some o ∧ s.has id = true ∧ b ∈ own1 id⟩
  have hSLH : ∀ id o', SL.H id = some o' → s.heapOf x id = some o' ∧ isBox o'.t = true := fun id o' ho => by
    simp only [SL] at ho
    split at ho
    · rename_i o e
      obtain ⟨h1, h2⟩ := ite_some ho
      simp only [Option.some.injEq] at h2
      subst h2
      exact ⟨e, h1⟩
    · simp at ho
  have hX : ∀ b ∈ X, SL.O b := fun b hb => by
    obtain ⟨a, h1, _, id, q, ob, h2, h3, h4⟩ := D.from_ b hb
    have := hid _ _ h2
    simp only [Prod.mk.injEq] at this
    obtain ⟨rfl, rfl⟩ := this
    exact ⟨_, ob, h3, List.any_eq_true.2 ⟨a, h1, by simp⟩, h4⟩
  refine ⟨σ, I1, own1, SL, x, I2, σn, ownN, rfl, ⟨⟨⟨loose, D.ghost.inv⟩, rfl, D.hard.le, fun b hb k => D.hard.out b (fun e => hb (hX b e)) k, fun j _ => hnames j, fun b => Iff.rfl, fun id o0 x' o h1 h2 h3 => ?_, fun id hh => ?_⟩, hok, fun id o' ho x' o hx => ?_, fun id o' ho => ?_⟩, P.trans (D.ghost.pres.less h.le), ⟨⟨D.rel fun j o hj => hok.lt hj, Kept.refl _ _ _, fun j o hj b hb => ?_, by simp, by simp, by simp, fun _ _ _ _ _ _ => rfl⟩, fun j _ _ => hnames j, fun j o hj => (D.objs j o hj).1⟩, D.trel hok⟩
  · obtain ⟨ox, hox⟩ := heapOf_has (x := x).2 (heapOf_has.1 ⟨o, h3⟩)
    obtain ⟨ob, m', k1, k2⟩ := hobj id ox hox
    rw [h1] at k1
    injection k1 with k1
    subst k1
    have ht : o.t = ox.t := fillObjs_t _ _ _ h3 hox
    have hb : isBox ox.t = true := by
      cases e : o0.t <;> simp [e, isBox] at h2
      rw [e] at k2
      cases e' : ox.t <;> simp [e', Ty.may] at k2
      rfl
    refine ⟨by rw [ht]; exact hb, ox, ?_⟩
    simp only [SL, hox, hb, if_true]
  · obtain ⟨ox, hox⟩ := heapOf_has (x := x).2 hh
    obtain ⟨ob, m', k1, k2⟩ := hobj id ox hox
    exact ⟨ob, k1⟩
  · obtain ⟨h1, h2⟩ := hSLH id o' ho
    rw [fillObjs_t _ _ _ hx h1]
    exact h2
  · exact (hok.lt (hSLH id o' ho).1).1
  · refine .inl ?_
    obtain ⟨id, q, ob, e1, e2, e3⟩ := D.sub hj
    have := hid _ _ e1
    simp only [Prod.mk.injEq] at this
    obtain ⟨rfl, rfl⟩ := this
    exact ⟨_, ob, e2, heapOf_has.1 ⟨o, hj⟩, e3 b hb⟩

theorem take_round {s : Shape} {w0 w' wr : World} {σe σr : Nat → Value} {H0 : Heap} {I1 Ir : Imm} {own1 ownr : Own} {SL : Start} {y : HL s.leaves} {z : Tys s.leaves} (L : LoopAt S n s w0 σe H0 I1 own1 SL) (Rr : Round n s σe SL y wr Ir σr ownr)
    (h : At SL ⟨n, wr, Ir, σr, s.heapOf y⟩ m n' w' st a) (ht : s.take st = some z) :
    ∃ x I2 σn ownN, z = HL.pk _ x ∧ Round n s σe SL x w' I2 σn ownN ∧ TRel n w' I2 σn (s.give z) a := by
  obtain ⟨I, σ, own, loose, R, T, P⟩ := h.ex
  replace P : Pres n wr Ir σr (s.heapOf y) w' I σ st.heap := P
  unfold Shape.take at ht
  obtain ⟨⟨x, H, g⟩, h1, ht⟩ := Option.bind_eq_some_iff.1 ht
  obtain ⟨hc, ht⟩ := ite_some ht
  simp only [Option.some.injEq] at ht
  subst ht
  simp only [Bool.and_eq_true, List.all_eq_true, Bool.or_eq_true, Bool.not_eq_true', beq_iff_eq, List.isEmpty_iff] at hc
  obtain ⟨hc1, hc2⟩ := hc
  obtain ⟨I1', own1', σn, I2, ownN, X, ouF, D⟩ := tell_ok (val := fun t => a.tmps.getD t undef) R (fun t => ⟨T.val t, T.ids t⟩) (fun i j id p q h => by simp [Asg.find] at h) h1
  refine ⟨x, I2, σn, ownN, rfl, ⟨⟨D.rel fun j o hj => L.ok.lt hj, D.kept, fun j o hj => D.owns hj, by simp, by simp, by simp, fun id o0 o ho hx hok => ?_⟩, fun j hj hf => ?_, fun j o hj => (D.objs j o hj).1⟩, D.trel L.ok⟩
  · have hb := L.bx id o0 ho x o hx
    obtain ⟨a, e1, rfl, e3⟩ := fillObjs_mem _ _ hx
    rcases hc1 a e1 with e | ⟨e4, e5⟩
    · rw [e3, hb] at e; simp at e
    · rw [D.names.1 _ _ (is_find e4)]
      unfold Heap.keeps at e5
      split at e5
      · rename_i oH e6
        exact D.ghost.inv.hdl _ o0 oH ho e6 e5
      · simp at e5
  · have hno : s.heapOf y j = none := by
      cases e : s.heapOf y j with
      | none => rfl
      | some o => rw [heapOf_has.1 ⟨o, e⟩] at hf; simp at hf
    rw [← Rr.sig j hj hf, ← P.sig j hj hno]
    cases hfind : g.find j with
    | none => exact D.none j hfind
    | some x =>
      rcases hc2 _ (asg_mem hfind) with e | ⟨e1, e2⟩
      · simp only at e; rw [hf] at e; simp at e
      · have : x = (j, []) := Prod.ext e1 e2
        rw [this] at hfind
        exact D.names.1 j j hfind
end

/-! ### Rounds -/
section
variable {S R : Type}
theorem loop_iter {f : S → Option (S ⊕ R)} {s : S} {r : R} (h : loopR f s = some r) : ∃ n, iter f n s = some r := by
  unfold loopR at h
  split at h
  · rename_i hx
    simp only [Option.some.injEq] at h
    subst h
    exact ⟨_, Classical.choose_spec (Classical.choose_spec hx)⟩
  · simp at h

theorem iter_step {f : S → Option (S ⊕ R)} {n : Nat} {s : S} {r : R} (h : iter f n s = some r) : ∃ k, n = k + 1 ∧ ((∃ s', f s = some (.inl s') ∧ iter f k s' = some r) ∨ f s = some (.inr r)) := by
  cases n with
  | zero => simp [iter] at h
  | succ k =>
    refine ⟨k, rfl, ?_⟩
    simp only [iter] at h
    split at h
    · simp at h
    · rename_i s' e; exact .inl ⟨s', e, h⟩
    · rename_i r' e; simp only [Option.some.injEq] at h; subst h; exact .inr e

theorem least {p : Nat → Prop} (h : ∃ n, p n) : ∃ n, p n ∧ ∀ k, p k → n ≤ k := by
  obtain ⟨n, hn⟩ := h
  induction n using Nat.strongRecOn with
  | _ n ih =>
    by_cases hx : ∃ k, k < n ∧ p k
    · obtain ⟨k, h1, h2⟩ := hx; exact ih k h1 h2
    · exact ⟨n, hn, fun k hk => by
        cases Nat.lt_or_ge k n with
        | inl h => exact absurd ⟨k, h, hk⟩ hx
        | inr h => exact h⟩
end
end Go.Ev

namespace Go.Ev

def Ex.out : Ex → Exit
  | .normal => .normal
  | .ret => .ret
  | .exit j => .exit j

/-- A walk through code does what the code does. -/
def BodyOk (P : Program) (m : Nat) (c : Code) (f : (R : Type) → St → Nat → (Ex → St → Nat → Option R) → Option R) : Prop :=
  ∀ (R : Type) (S : Start) (B : Base) (n : Nat) (w : World) (st : St) (a : Act) (k : Ex → St → Nat → Option R) (r : R) (Q : Exit → Act → World → Prop), At S B m n w st a → f R st n k = some r →
    (∀ e st' n' a' w', n ≤ n' → At S B m n' w' st' a' → k e st' n' = some r → Q e.out a' w') → c.wp P Q a w

section
variable {S : Start} {B : Base} {m n : Nat} {w : World} {st : St} {a : Act} {P : Program} {c : Code}

/-- The state at the head of a round. -/
def LA (S : Start) (m n : Nat) (s : Shape) (w0 : World) (σe : Nat → Value) (SL : Start) (z : Tys s.leaves) (a : Act) (w : World) : Prop :=
  ∃ x I σ own, z = HL.pk _ x ∧ Round n s σe SL x w I σ own ∧ TRel n w I σ (s.give z) a ∧ a.defers = [] ∧ a.tmps.size = m

theorem LA.at_ {s : Shape} {w0 : World} {σe : Nat → Value} {H0 : Heap} {I1 : Imm} {own1 : Own} {SL : Start} {z : Tys s.leaves} (L : LoopAt S n s w0 σe H0 I1 own1 SL) (h : LA S m n s w0 σe SL z a w) :
    ∃ x I σ own, Round n s σe SL x w I σ own ∧ At SL ⟨n, w, I, σ, s.heapOf x⟩ m n w (s.give z) a := by
  obtain ⟨x, I, σ, own, rfl, Rr, T, hd, hsz⟩ := h
  refine ⟨x, I, σ, own, Rr, ⟨I, σ, own, [], ?_, T, ?_⟩, Nat.le_refl _, L.dom, hd, hsz⟩
  · rw [give_eq]; exact Rr.inv
  · rw [give_eq]; exact Pres.refl _ _ _ _ _

open Classical in
/-- The rounds of a loop, by what its body does. -/
theorem rounds_ok {s : Shape} {w0 : World} {σe : Nat → Value} {H0 : Heap} {I1 : Imm} {own1 : Own} {SL : Start} {RL : Type} (L : LoopAt S n s w0 σe H0 I1 own1 SL) (hP : Pres B.n B.w B.I B.σ B.H w0 I1 σe H0) (hB : B.n ≤ n) (hS : ∀ j o, S.H j = some o → j < n)
    {f : Tys s.leaves → Option (Tys s.leaves ⊕ RL)} {z0 : Tys s.leaves} {r : RL} (hz : LA S m n s w0 σe SL z0 a w) (hl : loopR f z0 = some r) {Q : Exit → Act → World → Prop}
    (body : ∀ z r' a w, LA S m n s w0 σe SL z a w → f z = some r' → (∀ z', r' = .inl z' → ∃ N, iter f N z' = some r) → (∀ r0, r' = .inr r0 → r0 = r) →
      c.wp P (Exit.then (fun a' w' => ∃ z', r' = .inl z' ∧ LA S m n s w0 σe SL z' a' w') Q) a w) : (Code.loop c).wp P Q a w := by
  let p : Act → World → Nat → Prop := fun a w N => ∃ z, iter f N z = some r ∧ LA S m n s w0 σe SL z a w
  let μ : Act → World → Nat := fun a w => if h : ∃ N, p a w N then Classical.choose (least h) else 0
  have hμ : ∀ a w N, p a w N → p a w (μ a w) ∧ μ a w ≤ N := fun a w N hN => by
    have hex : ∃ N, p a w N := ⟨N, hN⟩
    have e : μ a w = Classical.choose (least hex) := dif_pos hex
    rw [e]
    exact ⟨(Classical.choose_spec (least hex)).1, (Classical.choose_spec (least hex)).2 N hN⟩
  refine wp_loop (fun a w => ∃ N, p a w N) μ ?_ ?_
  · obtain ⟨N, hN⟩ := loop_iter hl
    exact ⟨N, z0, hN, hz⟩
  · rintro a w ⟨N, hN⟩
    obtain ⟨⟨z, h1, h2⟩, _⟩ := hμ a w N hN
    obtain ⟨k, hk, h3⟩ := iter_step h1
    rcases h3 with ⟨z', h3, h4⟩ | h3
    · refine Code.wp_mono ?_ (body z (.inl z') a w h2 h3 (fun z2 e => by simp only [Sum.inl.injEq] at e; subst e; exact ⟨k, h4⟩) (fun r0 e => by simp at e))
      intro e a' w' q
      cases e with
      | normal =>
        obtain ⟨z2, e2, h5⟩ := q
        simp only [Sum.inl.injEq] at e2
        subst e2
        have hp : p a' w' k := ⟨z', h4, h5⟩
        exact ⟨⟨k, hp⟩, by have := (hμ a' w' k hp).2; omega⟩
      | _ => exact q
    · refine Code.wp_mono ?_ (body z (.inr r) a w h2 h3 (fun z2 e => by simp at e) (fun r0 e => by simp at e; exact e.symm))
      intro e a' w' q
      cases e with
      | normal =>
        obtain ⟨z2, e2, h5⟩ := q
        simp at e2
      | _ => exact q

theorem loop_ok {RR : Type} {f : (R : Type) → St → Nat → (Ex → St → Nat → Option R) → Option R} {esc : Bool} {id : Nat} {s : Shape} {k : Ex → St → Nat → Option RR} {r : RR} {Q : Exit → Act → World → Prop} (hf : BodyOk P m c f) (h : At S B m n w st a) (he : evLoop f esc id s RR st n k = some r)
    (hk : ∀ e st' n' a' w', n ≤ n' → At S B m n' w' st' a' → k e st' n' = some r → Q e.out a' w') : (Code.loop c).wp P Q a w := by
  unfold evLoop at he
  obtain ⟨⟨x0, H0⟩, h1, he⟩ := Option.bind_eq_some_iff.1 he
  obtain ⟨σe, I1, own1, SL, x, I2, σn, ownN, rfl, L, hP, R0, T0⟩ := enter_ok h h1
  have hz : LA S m n s w σe SL (HL.pk _ x) a w := ⟨x, I2, σn, ownN, rfl, R0, T0, h.defers, h.size⟩
  have exit_ : ∀ {x' Ir σr ownr wr st' n' a' w'}, Round n s σe SL x' wr Ir σr ownr → At SL ⟨n, wr, Ir, σr, s.heapOf x'⟩ m n' w' st' a' → At S B m n' w' (s.back H0 st') a' :=
    fun Rr hA => back_ok L.head Rr hP h.le h.names hA
  have take_ : ∀ {x' Ir σr ownr wr st' n' a' w' z'}, Round n s σe SL x' wr Ir σr ownr → At SL ⟨n, wr, Ir, σr, s.heapOf x'⟩ m n' w' st' a' → s.take st' = some z' → LA S m n s w σe SL z' a' w' :=
    fun Rr hA ht => by
      obtain ⟨x2, I3, σ3, own3, e, h2, h3⟩ := take_round L Rr hA ht
      exact ⟨x2, I3, σ3, own3, e, h2, h3, hA.defers, hA.size⟩
  simp only at he
  split at he
  · rw [bnd_eq] at he
    obtain ⟨o, ho, he⟩ := Option.bind_eq_some_iff.1 he
    refine rounds_ok L hP h.le h.names hz ho ?_
    intro z r' a w hla hr hinl hinr
    obtain ⟨x', Ir, σr, ownr, Rr, hA⟩ := hla.at_ L
    refine hf _ _ _ _ _ _ _ _ _ _ hA hr ?_
    intro e st' n' a' w' hn' hA' hk'
    cases e with
    | normal =>
      simp only [Option.map_eq_some_iff] at hk'
      obtain ⟨z', h2, rfl⟩ := hk'
      exact ⟨z', rfl, take_ Rr hA' h2⟩
    | ret =>
      simp only [Option.map_eq_some_iff] at hk'
      obtain ⟨rr, h2, rfl⟩ := hk'
      have := hinr _ rfl
      subst this
      simp only [Option.some.injEq] at he
      subst he
      exact hk .ret _ _ _ _ hn' (exit_ Rr hA') h2
    | exit j =>
      simp only at hk'
      split at hk'
      · rename_i e
        subst e
        simp only [Option.map_eq_some_iff] at hk'
        obtain ⟨z', h2, rfl⟩ := hk'
        have := hinr _ rfl
        subst this
        obtain ⟨x2, I3, σ3, own3, Rr2, hA2⟩ := (take_ Rr hA' h2).at_ L
        exact hk (.exit j) _ _ _ _ (Nat.le_refl _) (exit_ Rr2 hA2) he
      · simp only [Option.map_eq_some_iff] at hk'
        obtain ⟨rr, h2, rfl⟩ := hk'
        have := hinr _ rfl
        subst this
        simp only [Option.some.injEq] at he
        subst he
        exact hk (.exit j) _ _ _ _ hn' (exit_ Rr hA') h2
  · rw [bnd_eq] at he
    obtain ⟨o, ho, he⟩ := Option.bind_eq_some_iff.1 he
    refine rounds_ok L hP h.le h.names hz ho ?_
    intro z r' a w hla hr hinl hinr
    obtain ⟨x', Ir, σr, ownr, Rr, hA⟩ := hla.at_ L
    refine hf _ _ _ _ _ _ _ _ _ _ hA hr ?_
    intro e st' n' a' w' hn' hA' hk'
    cases e with
    | normal =>
      simp only [Option.map_eq_some_iff] at hk'
      obtain ⟨z', h2, rfl⟩ := hk'
      exact ⟨z', rfl, take_ Rr hA' h2⟩
    | ret => simp at hk'
    | exit j =>
      simp only at hk'
      split at hk'
      · rename_i e
        subst e
        simp only [Option.map_eq_some_iff] at hk'
        obtain ⟨z', h2, rfl⟩ := hk'
        have := hinr _ rfl
        subst this
        obtain ⟨x2, I3, σ3, own3, Rr2, hA2⟩ := (take_ Rr hA' h2).at_ L
        exact hk (.exit j) _ _ _ _ (Nat.le_refl _) (exit_ Rr2 hA2) he
      · simp at hk'
end
end Go.Ev

namespace Go.Ev

/-- A region whose order is drawn does what the walk through it says. -/
def DrawOk (P : Program) (C0 : Handler) : Prop :=
  ∀ (m : Nat) (id : Nat) (ops : Array Oper), (∀ o ∈ ops.toList, ∀ t, o.dst = some t → t < m) → ∀ (R : Type) (S : Start) (B : Base) (n : Nat) (w : World) (st : St) (a : Act) (k : St → Nat → Option R) (r : R) (Q : Exit → Act → World → Prop), At S B m n w st a → evDraw P C0 ops st n k = some r →
    (∀ st' n' a' w', n ≤ n' → At S B m n' w' st' a' → k st' n' = some r → Q .normal a' w') → (Code.region id ops true).wp P Q a w

section
variable {P : Program} {C0 C : Handler} {A : Nat → Option Ann} {m : Nat}

theorem ev_ok (hC : HandlerOk P C) (hD : DrawOk P C0) : ∀ (c : Code) (b : Option Nat), dstOk m c = true → BodyOk P m c (fun R => ev P C0 C A c b R) := by
  intro c
  induction c with
  | skip => intro b hd R S B n w st a k r Q h he hk; exact wp_skip (hk .normal _ _ _ _ (Nat.le_refl _) h he)
  | region id ops d =>
    intro b hd R S B n w st a k r Q h he hk
    have hdst : ∀ o ∈ ops.toList, ∀ t, o.dst = some t → t < m := fun o ho t ht => by
      simp only [dstOk, List.all_eq_true] at hd
      have := hd o ho
      rw [ht] at this
      exact Nat.le_of_ble_eq_true this
    simp only [ev] at he
    cases d with
    | true => exact hD m id ops hdst R S B n w st a _ r Q h (by simpa using he) fun st' n' a' w' hn h' hk' => hk .normal _ _ _ _ hn h' hk'
    | false => exact wp_region_list (ops_ok hC _ h hdst (by simpa using he) fun st' n' a' w' hn h' hk' => hk .normal _ _ _ _ hn h' hk')
  | seq x y ihx ihy =>
    intro b hd R S B n w st a k r Q h he hk
    simp only [dstOk, Bool.and_eq_true] at hd
    refine wp_seq (ihx none hd.1 R S B n w st a _ r _ h he ?_)
    intro e st' n' a' w' hn h' hk'
    cases e with
    | normal => exact ihy none hd.2 R S B n' w' st' a' k r Q h' hk' fun e st2 n2 a2 w2 hn2 h2 hk2 => hk e _ _ _ _ (by omega) h2 hk2
    | ret => exact hk .ret _ _ _ _ hn h' hk'
    | exit j => exact hk (.exit j) _ _ _ _ hn h' hk'
  | cond cnd x y ihx ihy =>
    intro b hd R S B n w st a k r Q h he hk
    simp only [dstOk, Bool.and_eq_true] at hd
    have go : ∀ (t : Bool) (st' : St), At S B m n w st' a → a.eval cnd = .bool t → (if t = true then ev P C0 C A x none R st' n k else ev P C0 C A y none R st' n k) = some r → (Code.cond cnd x y).wp P Q a w := by
      intro t st' h' ht he'
      refine wp_cond ht ?_
      cases t with
      | true => exact ihx none hd.1 R S B n w st' a k r Q h' (by simpa using he') hk
      | false => exact ihy none hd.2 R S B n w st' a k r Q h' (by simpa using he') hk
    obtain ⟨I, σ, own, loose, RR, T, hP⟩ := h.ex
    obtain ⟨hv, hvi⟩ := eval_ok T cnd
    simp only [ev] at he
    split at he
    · rename_i t ht
      rw [ht] at hv
      exact go t st h hv.lb_inv he
    · rename_i t ht
      rw [ht] at hv
      have hb := hv.bool_inv
      split at he
      · rename_i i
        rw [br_eq] at he
        refine go t (st.put i (.lb t)) (h.lb (by rw [← hb]; simp [Act.eval, Array.getD_eq_getD_getElem?])) hb ?_
        cases t <;> simpa using he
      · rw [br_eq] at he
        exact go t st h hb he
    · simp at he
  | loop x ih =>
    intro b hd R S B n w st a k r Q h he hk
    simp only [dstOk] at hd
    simp only [ev] at he
    split at he
    · simp at he
    · split at he
      · simp at he
      · exact loop_ok (ih none hd) h he hk
  | block id x ih =>
    intro b hd R S B n w st a k r Q h he hk
    simp only [dstOk] at hd
    simp only [ev] at he
    refine wp_block (ih (some id) hd R S B n w st a _ r _ h he ?_)
    intro e st' n' a' w' hn h' hk'
    cases e with
    | normal => exact hk .normal _ _ _ _ hn h' hk'
    | ret => exact hk .ret _ _ _ _ hn h' hk'
    | exit j =>
      simp only at hk'
      simp only [Ex.out, Exit.inBlock]
      split
      · rename_i e; rw [if_pos e] at hk'; exact hk .normal _ _ _ _ hn h' hk'
      · rename_i e; rw [if_neg e] at hk'; exact hk (.exit j) _ _ _ _ hn h' hk'
  | exit id => intro b hd R S B n w st a k r Q h he hk; exact wp_exit (hk (.exit id) _ _ _ _ (Nat.le_refl _) h he)
  | ret => intro b hd R S B n w st a k r Q h he hk; exact wp_ret (hk .ret _ _ _ _ (Nat.le_refl _) h he)
  | _ => intro b hd R S B n w st a k r Q h he hk; simp [ev] at he
end
end Go.Ev

namespace Go.Ev

section
variable {S : Start} {n : Nat} {w : World} {I : Imm} {σ : Nat → Value} {own : Own} {loose : List Nat} {st : St} {a : Act} {P : Program}

theorem cell_load {H : Heap} {av : AV} {T : TypeId} {u : Value} {pl : Place} (R : Inv S n w I σ H own loose) (hu : AvV w I σ H av u) (hpl : H.place av = some pl) (hc : cellsOk P T pl.v.t = true) :
    ∃ ad v, asAddr u = pure ad ∧ (loadVar T ad).run P w = .ok v w ∧ AvV w I σ H (AV.get pl.id pl.o.ev.length pl.v.t pl.v.x pl.p) v ∧ ∀ j ∈ (AV.get pl.id pl.o.ev.length pl.v.t pl.v.x pl.p).ids, j < n := by
  have hpt := place_isT hpl
  obtain ⟨p1, p2, p3, p4, b, off, s, ou, pre, post, lh, h1, F, hb, hoff⟩ := place_ok R hpl (hu.one hpt.1 hpt.2)
  simp only [List.cons.injEq, and_true] at h1
  obtain ⟨c, es, e1, e2, e3, e4, e5⟩ : ∃ c es, s.blk = some c ∧ c ∈ pre ∧ Blk w c es ∧ s.cells = (es.toList.drop s.off).take pl.v.t.width ∧ s.off + pl.v.t.width ≤ es.size := by
    cases lh with
    | true => exact F.there rfl
    | false => have := (F.here rfl).1; rw [hb] at this; simp at this
  rw [hb] at e1
  injection e1 with e1
  subst e1
  obtain ⟨v, k1, k2⟩ := run_loadVar (P := P) (b := b) (o := off) hc F.rep.len (fun j v hv => blk_cells e3 (by rw [← hoff]; exact e4) j v hv)
  obtain ⟨g1, g2⟩ := get_ok R p1 pl.v.t pl.v.x pl.p s ou p2 p3 F.spot F.rep
  have g3 := get_one pl.v.t pl.id pl.o.ev.length pl.v.x pl.p
  exact ⟨⟨b, off, none⟩, v, by rw [h1]; rfl, k1, avv_cells g3.1 g3.2 g1 F.rep.one k2, g2⟩

theorem resL_ok (R : Inv S n w I σ st.heap own loose) (T : TRel n w I σ st a) : ∀ (rs : List ResultVar) {l : List AV}, resAV st P rs = some l →
    ∃ vs, (rs.mapM fun (r : ResultVar) => (match r with | .tmp t => pure (a.tmps.getD t undef) | .cell x t => do loadVar t (← asAddr (a.tmps.getD x undef)) : Sem Value)).run P w = .ok vs w ∧ All2 (fun av v => AvV w I σ st.heap av v ∧ ∀ id ∈ av.ids, id < n) l vs := by
  intro rs
  induction rs with
  | nil => intro l h; simp only [resAV, Option.some.injEq] at h; subst h; exact ⟨[], by simp, trivial⟩
  | cons r rs ih =>
    intro l h
    cases r with
    | tmp t =>
      simp only [resAV, Option.map_eq_some_iff] at h
      obtain ⟨l', h1, rfl⟩ := h
      obtain ⟨vs, k1, k2⟩ := ih h1
      exact ⟨a.tmps.getD t undef :: vs, by simp only [List.mapM_cons, Sem.run_bind, Sem.run_pure, Result.andThen_ok, k1], ⟨T.val t, T.ids t⟩, k2⟩
    | cell x t =>
      simp only [resAV] at h
      obtain ⟨pl, h1, h⟩ := Option.bind_eq_some_iff.1 h
      obtain ⟨hc, h⟩ := ite_some h
      simp only [Option.map_eq_some_iff] at h
      obtain ⟨l', h2, rfl⟩ := h
      obtain ⟨vs, k1, k2⟩ := ih h2
      obtain ⟨ad, v, e1, e2, e3, e4⟩ := cell_load R (T.val x) h1 hc
      exact ⟨v :: vs, by simp only [List.mapM_cons, e1, Sem.run_bind, Sem.run_pure, Result.andThen_ok, e2, k1], ⟨e3, e4⟩, k2⟩

theorem tupL_ok {H : Heap} : ∀ {l : List AV} {vs : List Value}, All2 (fun av v => AvV w I σ H av v ∧ ∀ id ∈ av.ids, id < n) l vs → isT (tupL l) = true ∧ AvL w I σ H (tupL l) vs ∧ ∀ id ∈ (tupL l).ids, id < n
  | [], [], _ => ⟨rfl, rfl, by simp [tupL, AV.ids]⟩
  | av :: l, v :: vs, h => by
    obtain ⟨h1, h2, h3⟩ := tupL_ok (l := l) (vs := vs) h.2
    exact ⟨rfl, ⟨v, vs, rfl, h.1.1, h2⟩, fun id hid => by
      simp only [tupL, AV.ids, List.mem_append] at hid
      exact hid.elim (h.1.2 id) (h3 id)⟩
  | [], _ :: _, h | _ :: _, [], h => h.elim

theorem tupAV_ok {H : Heap} {l : List AV} {vs : List Value} (h : All2 (fun av v => AvV w I σ H av v ∧ ∀ id ∈ av.ids, id < n) l vs) :
    AvV w I σ H (tupAV l) (if h : vs.toArray.size = 1 then vs.toArray[0] else .tuple vs.toArray) ∧ ∀ id ∈ (tupAV l).ids, id < n := by
  match l, vs, h with
  | [], [], h =>
    obtain ⟨h1, h2, h3⟩ := tupL_ok h
    exact ⟨⟨fun _ => ⟨[], by simp, h2⟩, fun e => by simp [tupAV, tupL, isT] at e⟩, h3⟩
  | [av], [v], h => exact ⟨by simpa [tupAV] using h.1.1, h.1.2⟩
  | av :: av2 :: l, v :: v2 :: vs, h =>
    obtain ⟨h1, h2, h3⟩ := tupL_ok h
    exact ⟨⟨fun _ => ⟨v :: v2 :: vs, by simp, h2⟩, fun e => by simp [tupAV, tupL, isT] at e⟩, h3⟩
  | [], _ :: _, h | _ :: _, [], h => exact h.elim
  | [_], _ :: _ :: _, h | _ :: _ :: _, [_], h => exact h.2.elim

theorem results_ok {fn : Func} {l : List AV} (R : Inv S n w I σ st.heap own loose) (T : TRel n w I σ st a) (h : resAV st P fn.results.toList = some l) :
    ∃ v, (results fn a.tmps).run P w = .ok v w ∧ AvV w I σ st.heap (tupAV l) v ∧ ∀ id ∈ (tupAV l).ids, id < n := by
  obtain ⟨vs, h1, h2⟩ := resL_ok R T _ h
  obtain ⟨h3, h4⟩ := tupAV_ok h2
  refine ⟨_, ?_, h3, h4⟩
  have he : fn.results = fn.results.toList.toArray := by simp
  unfold results
  rw [he, List.mapM_toArray]
  have key : (List.toArray <$> (fn.results.toList.mapM fun (r : ResultVar) => (match r with | .tmp t => pure (a.tmps.getD t undef) | .cell x t => do loadVar t (← asAddr (a.tmps.getD x undef)) : Sem Value))).run P w = .ok vs.toArray w := by
    rw [map_eq_pure_bind, Sem.run_bind, h1]
    simp
  rw [Sem.run_bind]
  refine Eq.trans (congrArg (fun r => Result.andThen r _) key) ?_
  simp
end
end Go.Ev

