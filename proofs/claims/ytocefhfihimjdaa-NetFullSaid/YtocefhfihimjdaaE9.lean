/- A way to show what code computes: part 9: no condition. -/
import Derived.Test.YtocefhfihimjdaaE8
set_option linter.unusedVariables false
namespace Go.Ev

section
variable {S : Start} {n : Nat} {w : World} {σ : Nat → Value} {loose : List Nat}

theorem vals_ok {st : St} {val : Nat → Value} : ∀ (vs : List (Nat × AV)) {H H' : Heap} {g g' : Asg} {x : HL (valsLeaves vs)} {I : Imm} {own : Own}, matVals st vs H g = some (x, H', g') → Inv S n w I σ H own loose →
    (∀ t, AvV w I σ H (st.tmps t) (val t) ∧ ∀ id ∈ (st.tmps t).ids, id < n) →
    ∃ I' own', Ghost S n w I σ H own loose I' H' own' loose ∧ g.le g' ∧ (g.inj → g'.inj) ∧ ∀ (I'' : Imm) (H'' : Heap) (g'' : Asg) (σn : Nat → Value) (Hn : Heap), Pres n w I' σ H' w I'' σ H'' → g'.le g'' → Lays w σ H'' g'' σn Hn → fitVals st H'' vs = true →
      ∀ t, AvV w I'' σn Hn (fillVals vs x t) (val t) := by
  intro vs
  induction vs with
  | nil =>
    intro H H' g g' x I own h R hv
    obtain ⟨_, rfl, rfl⟩ := some3 h
    exact ⟨I, own, Ghost.refl R, Asg.le_refl _, fun h => h, fun I'' H'' g'' σn Hn _ _ _ _ t => avv_any⟩
  | cons tv vs ih =>
    obtain ⟨t, v⟩ := tv
    intro H H' g g' x I own h R hv
    obtain ⟨⟨x1, H1, g1⟩, h1, h⟩ := Option.bind_eq_some_iff.1 h
    obtain ⟨⟨y, H2, g2⟩, h2, h⟩ := Option.map_eq_some_iff.1 h
    obtain ⟨rfl, rfl, rfl⟩ := pair3 h
    obtain ⟨I1, own1, k1, k2⟩ := MatOk.one h1 (fun b hb => mat_ok v b hb h1) R (hv t).2 (hv t).1
    obtain ⟨I2, own2, k3, k4, k5, k6⟩ := ih h2 k1.inv fun u => ⟨(hv u).1.pres k1.pres (hv u).2, (hv u).2⟩
    obtain ⟨m1, m2⟩ := mat_g v h1
    refine ⟨I2, own2, k1.trans k3, Asg.le_trans m1 k4, fun h => k5 (m2 h), fun I'' H'' g'' σn Hn a1 a2 a3 a4 u => ?_⟩
    simp only [fitVals, List.all_cons, Bool.and_eq_true] at a4
    have e1 := k2 I'' H'' g'' σn Hn (k3.pres.trans a1) (Asg.le_trans k4 a2) a3 a4.1
    have e2 := k6 I'' H'' g'' σn Hn a1 a2 a3 a4.2 u
    show AvV w I'' σn Hn (if u = t then v.fill (HL.fst v.leaves (valsLeaves vs) (HL.app _ _ x1 y)) else fillVals vs (HL.snd v.leaves (valsLeaves vs) (HL.app _ _ x1 y)) u) (val u)
    rw [HL.fst_app, HL.snd_app]
    split
    · rename_i e; subst e; exact e1
    · exact e2

/-- An object of a shape, and where it lies. -/
def ObjFact (w : World) (I0 I2 : Imm) (σ : Nat → Value) (H : Heap) (own : Own) (g : Asg) (σn : Nat → Value) (j : Nat) (t : Ty) (x : t.den) (ou ow' : List Nat) : Prop :=
  ∃ id q ob v s pre post lh, g.find j = some (id, q) ∧ H id = some ob ∧ Path.lit q = true ∧ ob.t.get ob.x q = some v ∧ Focus w I0 σ ob.t [σ id] ob.x (own id) q v.t v.x false none 0 s ou pre post lh ∧ s.cells = [σn j] ∧
    (∃ m, v.t.may m t = true) ∧ TRep w I2 σn t [σn j] x ow' ∧ ow'.Sublist ou

theorem addAll_ok : ∀ (l : List (Nat × Nat)) {g g' : Asg}, l.foldlM (fun (g : Asg) (a : Nat × Nat) => g.add a.1 a.2 []) g = some g' → g.le g' ∧ (g.inj → g'.inj) := by
  intro l
  induction l with
  | nil => intro g g' h; simp at h; subst h; exact ⟨Asg.le_refl _, fun h => h⟩
  | cons a l ih =>
    intro g g' h
    simp only [List.foldlM_cons, Option.bind_eq_bind, Option.bind_eq_some_iff] at h
    obtain ⟨g1, h1, h2⟩ := h
    have k1 := add_ok h1
    have k2 := ih h2
    exact ⟨Asg.le_trans k1.1 k2.1, fun h => k2.2 (k1.2.2 h)⟩

/-- What a naming makes of values. -/
def Names (w : World) (σ : Nat → Value) (H : Heap) (g : Asg) (σn : Nat → Value) : Prop :=
  (∀ j id, g.find j = some (id, []) → σn j = σ id) ∧ ∀ j id q ob s c, g.find j = some (id, q) → H id = some ob → spot w ob.t [σ id] false none 0 q = some s → s.cells = [c] → σn j = c

theorem objs_ok {I0 : Imm} {H : Heap} {own : Own} (R : Inv S n w I0 σ H own loose) : ∀ (js : List (Nat × Ty)) {g g2 : Asg} {y : HL (js.map (·.2))} {I : Imm} {U : List Nat}, objMat H js g = some (y, g2) → g.inj → I0.le I →
    (∀ id ob, H id = some ob → (∀ j ∈ U, ∀ q, g.find j ≠ some (id, q)) → ∀ b ∈ own id, ∀ k, I b k = I0 b k) → (∀ a ∈ js, a.1 ∉ U) →
    g.le g2 ∧ g2.inj ∧ ∀ σn, Names w σ H g2 σn → ∃ I2 X, ∃ ouF : Nat → List Nat, Harder w I I2 X ∧ (∀ b ∈ X, ∃ a ∈ js, b ∈ ouF a.1 ∧ ∃ id q ob, g2.find a.1 = some (id, q) ∧ H id = some ob ∧ b ∈ own id) ∧
      ∀ j o, fillObjs js y j = some o → o.ev = [] ∧ ∃ ow', ObjFact w I0 I2 σ H own g2 σn j o.t o.x (ouF j) ow' := by
  intro js
  induction js with
  | nil =>
    intro g g2 y I U h hi hI hU hd
    simp only [objMat, Option.some.injEq, Prod.mk.injEq] at h
    obtain ⟨_, rfl⟩ := h
    exact ⟨Asg.le_refl _, hi, fun σn _ => ⟨I, [], fun _ => [], Harder.refl _ _ _, by simp, fun j o h => by simp [fillObjs] at h⟩⟩
  | cons ju js ih =>
    obtain ⟨j, u⟩ := ju
    intro g g2 y I U h hi hI hU hd
    simp only [objMat] at h
    obtain ⟨⟨id, q⟩, h1, h⟩ := Option.bind_eq_some_iff.1 h
    obtain ⟨ob, h2, h⟩ := Option.bind_eq_some_iff.1 h
    simp only at h
    split at h
    · simp at h
    rename_i hlit
    have hlit : Path.lit q = true := by simpa using hlit
    obtain ⟨v, h3, h⟩ := Option.bind_eq_some_iff.1 h
    split at h
    · simp at h
    rename_i hw
    simp only [Bool.or_eq_true, bne_iff_ne, ne_eq, not_or, Decidable.not_not, Bool.not_eq_true, List.any_eq_false, beq_iff_eq] at hw
    obtain ⟨hw, hnd⟩ := hw
    obtain ⟨g1, h4, h⟩ := Option.bind_eq_some_iff.1 h
    obtain ⟨y1, h5, h⟩ := Option.bind_eq_some_iff.1 h
    obtain ⟨⟨ys, g3⟩, h6, h⟩ := Option.map_eq_some_iff.1 h
    have hy : y = (y1, ys) ∧ g2 = g3 := by
      have := Prod.ext_iff.1 h; exact ⟨this.1.symm, this.2.symm⟩
    obtain ⟨rfl, rfl⟩ := hy
    obtain ⟨a1, a2⟩ := addAll_ok _ h4
    have hju : j ∉ U := hd (j, u) (by simp)
    obtain ⟨s, ou, pre, post, lh, F⟩ := focus q ob.t [σ id] ob.x (own id) v.t v.x false none 0 (R.rel.rep id ob h2) (R.rel.nd id ob h2) h3 (lit_inb hlit _ _)
    have hown := F.own
    have hou : ∀ b ∈ ou, b ∈ own id := fun b hb => by rw [hown]; simp [hb]
    have hnd' := R.rel.nd id ob h2
    rw [hown] at hnd'
    have houn : ou.Nodup := (List.nodup_append.1 (List.nodup_append.1 hnd').1).2.1
    have hfree : ∀ j0 ∈ U, ∀ q0, g.find j0 ≠ some (id, q0) := fun j0 hj0 q0 e => by
      have := hi _ _ _ _ _ e h1; subst this; exact hju hj0
    have hrep : TRep w I σ v.t s.cells v.x ou := F.rep.frame hI (fun b hb => ⟨rfl, hU id ob h2 hfree b (hou b hb)⟩) (fun _ _ => rfl)
    have key : ∀ σn, Names w σ H g2 σn → g1.le g2 → ∃ I1 ow', Harder w I I1 ou ∧ TRep w I1 σn u [σn j] y1 ow' ∧ ow'.Sublist ou ∧ s.cells = [σn j] := by
      intro σn hσ hle
      have hlen := F.rep.len
      rw [hw] at hlen
      obtain ⟨c, hc⟩ := List.length_eq_one_iff.1 hlen
      have hcj : σn j = c := hσ.2 j id q ob s c (hle _ _ (a1 _ _ h1)) h2 F.spot hc
      obtain ⟨hm, he, rfl⟩ := as_some h5
      have hmm : ∀ i k, (match g1.find k with | some (i', []) => i' == i | _ => false) = true → σn k = σ i := by
        intro i k hk
        split at hk
        · rename_i i' he'
          simp only [beq_iff_eq] at hk
          subst hk
          exact hσ.1 _ _ (hle _ _ he')
        · simp at hk
      obtain ⟨I1, ow', b1, b2, b3⟩ := TRep.as (σ := σ) (σ' := σn) hmm hm he I s.cells v.x ou hrep houn
      rw [hc] at b2 ⊢
      rw [← hcj] at b2 ⊢
      exact ⟨I1, ow', b1, b2, b3, rfl⟩
    have step : ∀ I1, Harder w I I1 ou → I0.le I1 ∧ (∀ id ob, H id = some ob → (∀ j0 ∈ j :: U, ∀ q, g1.find j0 ≠ some (id, q)) → ∀ b ∈ own id, ∀ k, I1 b k = I0 b k) := by
      intro I1 hh
      refine ⟨Imm.le_trans hI hh.le, fun id0 ob0 hob0 hf b hb k => ?_⟩
      have hne : id0 ≠ id := fun e => hf j (by simp) q (by rw [e]; exact a1 _ _ h1)
      rw [hh.out b (fun e => R.disj hne hob0 h2 b hb (hou b e)) k]
      exact hU id0 ob0 hob0 (fun j0 hj0 q0 e => hf j0 (by simp [hj0]) q0 (a1 _ _ e)) b hb k
    have hd2 : ∀ a ∈ js, a.1 ∉ j :: U := fun a ha e => by
      rcases List.mem_cons.1 e with e | e
      · exact hnd a ha e
      · exact hd a (by simp [ha]) e
    have hmay : ∃ m, v.t.may m u = true := ⟨_, (as_some h5).1⟩
    obtain ⟨b1, b2, _⟩ := ih (I := I0) (U := j :: U) h6 (a2 hi) (Imm.le_refl _) (fun _ _ _ _ _ _ _ => rfl) hd2
    refine ⟨Asg.le_trans a1 b1, b2, fun σn hσ => ?_⟩
    obtain ⟨I1, ow', c1, c2, c3, c4⟩ := key σn hσ b1
    obtain ⟨s1, s2⟩ := step I1 c1
    obtain ⟨_, _, b3⟩ := ih (I := I1) (U := j :: U) h6 (a2 hi) s1 s2 hd2
    obtain ⟨I2, X, ouF, d1, d2, d3⟩ := b3 σn hσ
    have hg2 := b1 _ _ (a1 _ _ h1)
    refine ⟨I2, ou ++ X, fun k => if k = j then ou else ouF k, c1.trans d1 (fun x hx => by simp [hx]) (fun x hx => by simp [hx]), fun b hb => ?_, fun k o hk => ?_⟩
    · rcases List.mem_append.1 hb with hb | hb
      · exact ⟨(j, u), by simp, by simp [hb], id, q, ob, hg2, h2, hou b hb⟩
      · obtain ⟨a, e1, e0, e2⟩ := d2 b hb; exact ⟨a, by simp [e1], by show b ∈ (if a.1 = j then ou else ouF a.1); rw [if_neg (hnd a e1)]; exact e0, e2⟩
    · simp only [fillObjs] at hk
      split at hk
      · rename_i e
        subst e
        simp only [Option.some.injEq] at hk
        subst hk
        show _ ∧ ∃ ow', ObjFact w I0 I2 σ H own g2 σn k _ _ (if k = k then ou else ouF k) ow'
        rw [if_pos rfl]
        refine ⟨rfl, ow', id, q, ob, v, s, pre, post, lh, hg2, h2, hlit, h3, F, c4, hmay, ?_, c3⟩
        refine c2.frame d1.le (fun b hb => ⟨rfl, d1.out b fun e => ?_⟩) (fun _ _ => rfl)
        obtain ⟨a, e1, _, id', q', ob', e2, e3, e4⟩ := d2 b e
        have hne : id' ≠ id := fun e => by
          subst e
          have := b2 _ _ _ _ _ e2 hg2
          exact hnd a e1 this
        exact R.disj hne e3 h2 b e4 (hou b (c3.subset hb))
      · rename_i e; show _ ∧ ∃ ow', ObjFact w I0 I2 σ H own g2 σn k _ _ (if k = j then ou else ouF k) ow'; rw [if_neg e]; exact d3 k o hk

open Classical in
theorem names_ex (w : World) (σ : Nat → Value) (H : Heap) (g : Asg) : ∃ σn, Names w σ H g σn ∧ ∀ j, g.find j = none → σn j = σ j := by
  have hex : ∀ j, ∃ v, (∀ id, g.find j = some (id, []) → v = σ id) ∧ (∀ id q ob s c, g.find j = some (id, q) → H id = some ob → spot w ob.t [σ id] false none 0 q = some s → s.cells = [c] → v = c) ∧ (g.find j = none → v = σ j) := by
    intro j
    cases hf : g.find j with
    | none => exact ⟨σ j, by simp, by simp, fun _ => rfl⟩
    | some x =>
      obtain ⟨id, q⟩ := x
      by_cases hq : q = []
      · subst hq
        refine ⟨σ id, fun id' e => by simp at e; rw [e], fun id' q ob s c e1 e2 e3 e4 => ?_, by simp⟩
        simp only [Option.some.injEq, Prod.mk.injEq] at e1
        obtain ⟨rfl, rfl⟩ := e1
        rw [spot_nil] at e3
        simp only [Option.some.injEq] at e3
        subst e3
        simpa using e4
      · by_cases hc : ∃ c ob s, H id = some ob ∧ spot w ob.t [σ id] false none 0 q = some s ∧ s.cells = [c]
        · obtain ⟨c, ob, s, e1, e2, e3⟩ := hc
          refine ⟨c, fun id' e => ?_, fun id' q' ob' s' c' f1 f2 f3 f4 => ?_, by simp⟩
          · simp only [Option.some.injEq, Prod.mk.injEq] at e
            exact absurd e.2 hq
          · simp only [Option.some.injEq, Prod.mk.injEq] at f1
            obtain ⟨rfl, rfl⟩ := f1
            rw [e1] at f2; injection f2 with f2; subst f2
            rw [e2] at f3; injection f3 with f3; subst f3
            rw [e3] at f4; simpa using f4
        · refine ⟨σ j, fun id' e => ?_, fun id' q' ob' s' c' f1 f2 f3 f4 => ?_, by simp⟩
          · simp only [Option.some.injEq, Prod.mk.injEq] at e
            exact absurd e.2 hq
          · simp only [Option.some.injEq, Prod.mk.injEq] at f1
            obtain ⟨rfl, rfl⟩ := f1
            exact absurd ⟨c', ob', s', f2, f3, f4⟩ hc
  exact ⟨fun j => Classical.choose (hex j), ⟨fun j id h => (Classical.choose_spec (hex j)).1 id h, fun j id q ob s c h1 h2 h3 h4 => (Classical.choose_spec (hex j)).2.1 id q ob s c h1 h2 h3 h4⟩, fun j h => (Classical.choose_spec (hex j)).2.2 h⟩
end
end Go.Ev

namespace Go.Ev

theorem HL.un_pk : ∀ (ts : List Ty) (x : HL ts), HL.un ts (HL.pk ts x) = x
  | [], _ => rfl
  | [_], _ => rfl
  | t :: u :: r, x => by
    show (x.1, HL.un (u :: r) (HL.pk (u :: r) x.2)) = x
    rw [HL.un_pk (u :: r)]

theorem give_eq (s : Shape) (x : HL s.leaves) : s.give (HL.pk _ x) = ⟨s.tmpsOf x, s.heapOf x⟩ := by
  unfold Shape.give Shape.tmpsOf Shape.heapOf
  rw [HL.un_pk]

theorem fillObjs_mem : ∀ (js : List (Nat × Ty)) (y : HL (js.map (·.2))) {j : Nat} {o : Obj}, fillObjs js y j = some o → ∃ a ∈ js, a.1 = j ∧ a.2 = o.t
  | [], _, _, _, h => by simp [fillObjs] at h
  | (i, t) :: r, y, j, o, h => by
    simp only [fillObjs] at h
    split at h
    · rename_i e
      simp only [Option.some.injEq] at h
      subst h
      exact ⟨(i, t), by simp, e.symm, rfl⟩
    · obtain ⟨a, h1, h2⟩ := fillObjs_mem r y.2 h
      exact ⟨a, by simp [h1], h2⟩

theorem fillObjs_has : ∀ (js : List (Nat × Ty)) (y : HL (js.map (·.2))) {j : Nat}, (js.any fun a => a.1 == j) = true → ∃ o, fillObjs js y j = some o
  | [], _, _, h => by simp at h
  | (i, t) :: r, y, j, h => by
    simp only [fillObjs]
    split
    · exact ⟨_, rfl⟩
    · rename_i e
      simp only [List.any_cons, Bool.or_eq_true, beq_iff_eq] at h
      exact fillObjs_has r y.2 (h.resolve_left fun h => e h.symm)

theorem heapOf_has {s : Shape} {x : HL s.leaves} {j : Nat} : (∃ o, s.heapOf x j = some o) ↔ s.has j = true := by
  constructor
  · rintro ⟨o, h⟩
    obtain ⟨a, h1, h2, _⟩ := fillObjs_mem _ _ h
    exact List.any_eq_true.2 ⟨a, h1, by simp [h2]⟩
  · exact fillObjs_has _ _

section
variable {S : Start} {n : Nat} {w : World} {I : Imm} {σ : Nat → Value} {own : Own} {loose : List Nat} {st : St} {a : Act}

/-- What a state is, told by a shape. -/
structure Told (S : Start) (n : Nat) (w : World) (I : Imm) (σ : Nat → Value) (own : Own) (loose : List Nat) (st : St) (g0 : Asg) (val : Nat → Value) (s : Shape) (x : HL s.leaves) (H1 : Heap) (g : Asg) (I1 : Imm) (own1 : Own) (σn : Nat → Value) (I2 : Imm) (ownN : Own) (X : List Nat) (ouF : Nat → List Nat) : Prop where
  le0 : g0.le g
  ghost : Ghost S n w I σ st.heap own loose I1 H1 own1 loose
  inj : g.inj
  names : Names w σ H1 g σn
  none : ∀ j, g.find j = none → σn j = σ j
  hard : Harder w I1 I2 X
  from_ : ∀ b ∈ X, ∃ a ∈ s.objs, b ∈ ouF a.1 ∧ ∃ id q ob, g.find a.1 = some (id, q) ∧ H1 id = some ob ∧ b ∈ own1 id
  objs : ∀ j o, s.heapOf x j = some o → o.ev = [] ∧ ObjFact w I1 I2 σ H1 own1 g σn j o.t o.x (ouF j) (ownN j)
  vals : ∀ t, AvV w I2 σn (s.heapOf x) (s.tmpsOf x t) (val t)

open Classical in
theorem tell_ok {s : Shape} {x : HL s.leaves} {H1 : Heap} {g : Asg} {g0 : Asg} {val : Nat → Value} (R : Inv S n w I σ st.heap own loose) (T : ∀ t, AvV w I σ st.heap (st.tmps t) (val t) ∧ ∀ id ∈ (st.tmps t).ids, id < n) (hi0 : g0.inj) (h : s.tell g0 st = some (x, H1, g)) :
    ∃ I1 own1 σn I2 ownN X ouF, Told S n w I σ own loose st g0 val s x H1 g I1 own1 σn I2 ownN X ouF := by
  unfold Shape.tell at h
  obtain ⟨⟨x0, H, g1⟩, h1, h⟩ := Option.bind_eq_some_iff.1 h
  obtain ⟨hfit, h⟩ := ite_some h
  obtain ⟨⟨y, g2⟩, h2, h⟩ := Option.map_eq_some_iff.1 h
  obtain ⟨rfl, rfl, rfl⟩ := pair3 h
  obtain ⟨I1, own1, G, k1, k2, k3⟩ := vals_ok (val := val) s.vals h1 R T
  replace hi0 : g1.inj := k2 hi0
  obtain ⟨b1, b2, b3⟩ := objs_ok G.inv s.objs (I := I1) (U := []) h2 hi0 (Imm.le_refl _) (fun _ _ _ _ _ _ _ => rfl) (by simp)
  obtain ⟨σn, hσ, hσ0⟩ := names_ex w σ H g2
  obtain ⟨I2, X, ouF, c1, c2, c3⟩ := b3 σn hσ
  have hH : s.heapOf (HL.app (valsLeaves s.vals) _ x0 y) = fillObjs s.objs y := by unfold Shape.heapOf; rw [HL.snd_app]
  have hT : s.tmpsOf (HL.app (valsLeaves s.vals) _ x0 y) = fillVals s.vals x0 := by unfold Shape.tmpsOf; rw [HL.fst_app]
  let ownN : Own := fun j => if h : ∃ o, fillObjs s.objs y j = some o then Classical.choose (c3 j _ (Classical.choose_spec h)).2 else []
  have hobj : ∀ j o, fillObjs s.objs y j = some o → o.ev = [] ∧ ObjFact w I1 I2 σ H own1 g2 σn j o.t o.x (ouF j) (ownN j) := by
    intro j o hj
    refine ⟨(c3 j o hj).1, ?_⟩
    have hex : ∃ o, fillObjs s.objs y j = some o := ⟨o, hj⟩
    have hspec := Classical.choose_spec (c3 j _ (Classical.choose_spec hex)).2
    have ho : Classical.choose hex = o := by
      have := hj.symm.trans (Classical.choose_spec hex)
      injection this with this
      exact this.symm
    have hown : ownN j = Classical.choose (c3 j _ (Classical.choose_spec hex)).2 := dif_pos hex
    rw [hown]
    have key : ∀ o' (e : o' = o) (p : fillObjs s.objs y j = some o'), ObjFact w I1 I2 σ H own1 g2 σn j o'.t o'.x (ouF j) (Classical.choose (c3 j o' p).2) → ∀ ow, ow = Classical.choose (c3 j o' p).2 → ObjFact w I1 I2 σ H own1 g2 σn j o.t o.x (ouF j) ow := by
      intro o' e p hf ow how
      subst e; subst how; exact hf
    exact key _ ho (Classical.choose_spec hex) hspec _ rfl
  refine ⟨I1, own1, σn, I2, ownN, X, ouF, Asg.le_trans k1 b1, G, b2, hσ, hσ0, c1, c2, ?_, ?_⟩
  · rw [hH]; exact hobj
  · rw [hH, hT]
    refine k3 I2 H g2 σn _ (Pres.firm c1.le) b1 ?_ hfit
    intro j id q hf obn hobn
    obtain ⟨_, id', q', ob, v, s', pre, post, lh, e1, e2, e3, e4, F, e6, e7, _⟩ := hobj j obn hobn
    rw [hf] at e1
    simp only [Option.some.injEq, Prod.mk.injEq] at e1
    obtain ⟨rfl, rfl⟩ := e1
    exact ⟨ob, v, s', e2, e4, e3, F.spot, e6, e7⟩

section
variable {s : Shape} {x : HL s.leaves} {H1 : Heap} {g : Asg} {I1 : Imm} {own1 : Own} {σn : Nat → Value} {I2 : Imm} {ownN : Own} {X : List Nat} {g0 : Asg} {val : Nat → Value} {ouF : Nat → List Nat}

theorem Told.sub (D : Told S n w I σ own loose st g0 val s x H1 g I1 own1 σn I2 ownN X ouF) {j : Nat} {o : Obj} (h : s.heapOf x j = some o) : ∃ id q ob, g.find j = some (id, q) ∧ H1 id = some ob ∧ ∀ b ∈ ownN j, b ∈ own1 id := by
  obtain ⟨_, id, q, ob, v, s', pre, post, lh, e1, e2, e3, e4, F, e6, e7, e8, e9⟩ := D.objs j o h
  exact ⟨id, q, ob, e1, e2, fun b hb => by rw [F.own]; simp [e9.subset hb]⟩

theorem Told.rel (D : Told S n w I σ own loose st g0 val s x H1 g I1 own1 σn I2 ownN X ouF) {n' : Nat} (hlt : ∀ j o, s.heapOf x j = some o → j < n' ∧ ∀ i ∈ o.t.refs, i < n') : SRel n' w I2 σn (s.heapOf x) ownN := by
  refine ⟨fun b j v hv => ?_, fun j o hj => ?_, fun j o hj => ?_, fun i j oi oj hij hi hj b hb hb' => ?_, hlt⟩
  · rcases D.hard.imm b j v hv with e | e
    · exact D.ghost.inv.rel.imm b j v e
    · exact e
  · obtain ⟨_, id, q, ob, v, s', pre, post, lh, e1, e2, e3, e4, F, e6, e7, e8, e9⟩ := D.objs j o hj
    exact e8
  · obtain ⟨_, id, q, ob, v, s', pre, post, lh, e1, e2, e3, e4, F, e6, e7, e8, e9⟩ := D.objs j o hj
    have hnd := D.ghost.inv.rel.nd id ob e2
    rw [F.own] at hnd
    exact (List.nodup_append.1 (List.nodup_append.1 hnd).1).2.1.sublist e9
  · obtain ⟨id, q, ob, e1, e2, e3⟩ := D.sub hi
    obtain ⟨id', q', ob', f1, f2, f3⟩ := D.sub hj
    have hne : id ≠ id' := fun e => by subst e; exact hij (D.inj _ _ _ _ _ e1 f1)
    exact D.ghost.inv.disj hne e2 f2 b (e3 b hb) (f3 b hb')

/-- What is fixed is so from where the walk began. -/
theorem Told.kept (D : Told S n w I σ own loose st g0 val s x H1 g I1 own1 σn I2 ownN X ouF) : Kept S.w w S.I I2 S.O := by
  have R1 := D.ghost.inv
  refine ⟨R1.kept.os, R1.kept.tape, R1.kept.output, R1.kept.size, fun b hb hn => ?_, Imm.le_trans R1.kept.le D.hard.le⟩
  obtain ⟨h1, h2⟩ := R1.kept.blk b hb hn
  refine ⟨h1, fun k => ?_⟩
  rw [D.hard.out b (fun e => ?_), h2]
  obtain ⟨_, _, _, id, q, ob, _, e1, e2⟩ := D.from_ b e
  rcases R1.owns id ob e1 b e2 with h | h
  · exact hn h
  · omega

theorem Told.owns (D : Told S n w I σ own loose st g0 val s x H1 g I1 own1 σn I2 ownN X ouF) {j : Nat} {o : Obj} (h : s.heapOf x j = some o) : ∀ b ∈ ownN j, S.O b ∨ S.w.heap.size ≤ b := by
  obtain ⟨id, q, ob, e1, e2, e3⟩ := D.sub h
  exact fun b hb => D.ghost.inv.owns id ob e2 b (e3 b hb)
end
end
end Go.Ev

namespace Go.Ev

/-- What is known at the head of a loop: of the state, and of the walk within. -/
structure Head (S : Start) (n : Nat) (s : Shape) (w0 : World) (σe : Nat → Value) (H0 : Heap) (I1 : Imm) (own1 : Own) (SL : Start) : Prop where
  inv : ∃ loose, Inv S n w0 I1 σe H0 own1 loose
  wld : SL.w = w0
  le : I1.le SL.I
  imm : ∀ b, ¬ SL.O b → ∀ k, SL.I b k = I1 b k
  sig : ∀ j, s.has j = true → SL.σ j = σe j
  own : ∀ b, SL.O b ↔ ∃ id o, H0 id = some o ∧ s.has id = true ∧ b ∈ own1 id
  box : ∀ id o0 x o, H0 id = some o0 → isBox o0.t = true → s.heapOf x id = some o → isBox o.t = true ∧ ∃ o', SL.H id = some o'
  has : ∀ id, s.has id = true → ∃ o, H0 id = some o

structure Round (n : Nat) (s : Shape) (σe : Nat → Value) (SL : Start) (x : HL s.leaves) (w : World) (I : Imm) (σ : Nat → Value) (own : Own) : Prop where
  inv : Inv SL n w I σ (s.heapOf x) own []
  sig : ∀ j, j < n → s.has j = false → σ j = σe j
  ev : ∀ j o, s.heapOf x j = some o → o.ev = []

theorem later_shape (f : Nat → Option Nat) (v : AV) : v.later f = .any ∨ (isT (v.later f) = isT v ∧ (v.later f).agg = v.agg) := by
  cases v with
  | ptr id p q off ver => simp only [AV.later]; split <;> first | exact .inr ⟨rfl, rfl⟩ | exact .inl rfl
  | slw id p ver => simp only [AV.later]; split <;> first | exact .inr ⟨rfl, rfl⟩ | exact .inl rfl
  | sub id p ver off len => simp only [AV.later]; split <;> first | exact .inr ⟨rfl, rfl⟩ | exact .inl rfl
  | mp id p ver => simp only [AV.later]; split <;> first | exact .inr ⟨rfl, rfl⟩ | exact .inl rfl
  | _ => exact .inr ⟨rfl, rfl⟩

theorem later_T (f : Nat → Option Nat) (v : AV) (h : isT v = true) : isT (v.later f) = true := by
  cases v <;> simp [isT] at h <;> rfl

theorem later_ids (f : Nat → Option Nat) (v : AV) : ∀ id ∈ (v.later f).ids, id ∈ v.ids := by
  induction v with
  | ptr id p q off ver => intro j hj; simp only [AV.later] at hj; split at hj; (· simpa [AV.ids] using hj); (· simp [AV.ids] at hj)
  | slw id p ver => intro j hj; simp only [AV.later] at hj; split at hj; (· simpa [AV.ids] using hj); (· simp [AV.ids] at hj)
  | sub id p ver off len => intro j hj; simp only [AV.later] at hj; split at hj; (· simpa [AV.ids] using hj); (· simp [AV.ids] at hj)
  | mp id p ver => intro j hj; simp only [AV.later] at hj; split at hj; (· simpa [AV.ids] using hj); (· simp [AV.ids] at hj)
  | one a ih => exact ih
  | pair a b iha ihb => intro j hj; simp only [AV.later, AV.ids, List.mem_append] at hj ⊢; exact hj.imp (iha j) (ihb j)
  | tup a b iha ihb => intro j hj; simp only [AV.later, AV.ids, List.mem_append] at hj ⊢; exact hj.imp (iha j) (ihb j)
  | clo g c ih => exact ih
  | _ => intro j hj; exact hj

/-- What is told otherwise of objects stands for what it stood for. -/
theorem later_ok {w : World} {I : Imm} {σ : Nat → Value} {H Hb : Heap} {f : Nat → Option Nat} (h : ∀ id m, f id = some m → ∀ ob, Hb id = some ob → ∃ o, H id = some o ∧ o.t = ob.t ∧ HEq o.x ob.x ∧ ∃ es, es.length = m ∧ ob.ev = es ++ o.ev) : ∀ (v : AV),
    (∀ c, (AvR w I σ H v).1 c → (AvR w I σ Hb (v.later f)).1 c) ∧ (isT v = true → ∀ c, (AvR w I σ H v).2 c → (AvR w I σ Hb (v.later f)).2 c) ∧ ∀ val, AvV w I σ H v val → AvV w I σ Hb (v.later f) val := by
  have ver : ∀ id m, f id = some m → ∀ ob, Hb id = some ob → ∃ o : Obj, H id = some o ∧ (∀ p b base, PtrC w σ id o p b base → PtrC w σ id ob p b base) ∧ (∀ p v k, HdrC w σ id o p v k → HdrC w σ id ob p v k) ∧
      (∀ ver, ver ≤ o.ev.length → ver + m ≤ ob.ev.length) ∧ ∀ hdr p ver, ob.ok hdr p (ver + m) = o.ok hdr p ver := by
    intro id m hm ob hob
    obtain ⟨⟨t, x, ev⟩, h1, h2, h3, es, h4, h5⟩ := h id m hm ob hob
    obtain ⟨t', x', ev'⟩ := ob
    simp only at h2 h3 h5
    subst h2
    have h3 := eq_of_heq h3
    subst h3
    subst h5
    refine ⟨_, h1, fun _ _ _ h => h, fun _ _ _ h => h, fun v hv => by simp only [List.length_append] at hv ⊢; omega, fun hdr p v => ?_⟩
    unfold Obj.ok
    simp only
    rw [← h4, Nat.add_comm, ← List.drop_drop, List.drop_left]
  have toV : ∀ v : AV, (∀ c, (AvR w I σ H v).1 c → (AvR w I σ Hb (v.later f)).1 c) → (isT v = true → ∀ c, (AvR w I σ H v).2 c → (AvR w I σ Hb (v.later f)).2 c) → ∀ val, AvV w I σ H v val → AvV w I σ Hb (v.later f) val := by
    intro v hc hl val hv
    rcases later_shape f v with e | ⟨e1, e2⟩
    · rw [e]; exact avv_any
    · refine ⟨fun ht => ?_, fun ht => ?_⟩
      · rw [e1] at ht
        obtain ⟨l, k1, k2⟩ := hv.1 ht
        exact ⟨l, k1, hl ht l k2⟩
      · rw [e1] at ht
        rw [e2]
        exact ⟨hc _ (hv.2 ht).1, (hv.2 ht).2⟩
  have both : ∀ v : AV, (∀ c, (AvR w I σ H v).1 c → (AvR w I σ Hb (v.later f)).1 c) ∧ (isT v = true → ∀ c, (AvR w I σ H v).2 c → (AvR w I σ Hb (v.later f)).2 c) := by
    intro v
    induction v with
    | ptr id p q off vr =>
      refine ⟨fun c hc => ?_, fun ht => by simp [isT] at ht⟩
      simp only [AV.later]
      cases hf : f id with
      | none => exact trivial
      | some m =>
        obtain ⟨b, o, base, h1, h2, h3⟩ := hc
        refine ⟨b, o, base, h1, h2, fun ob hob => ?_⟩
        obtain ⟨o', k1, k2, k3, k4, k5⟩ := ver id m hf ob hob
        exact ⟨k4 _ (h3 o' k1).1, fun hok => k2 _ _ _ ((h3 o' k1).2 (by rw [← k5]; exact hok))⟩
    | slw id p vr =>
      refine ⟨fun c hc => ?_, fun ht => by simp [isT] at ht⟩
      simp only [AV.later]
      cases hf : f id with
      | none => exact trivial
      | some m =>
        obtain ⟨b, l, cc, k, h1, h3⟩ := hc
        refine ⟨b, l, cc, k, h1, fun ob hob => ?_⟩
        obtain ⟨o', k1, k2, k3, k4, k5⟩ := ver id m hf ob hob
        exact ⟨k4 _ (h3 o' k1).1, fun hok => k3 _ _ _ ((h3 o' k1).2 (by rw [← k5]; exact hok))⟩
    | mp id p vr =>
      refine ⟨fun c hc => ?_, fun ht => by simp [isT] at ht⟩
      simp only [AV.later]
      cases hf : f id with
      | none => exact trivial
      | some m =>
        obtain ⟨rr, k, h1, h3⟩ := hc
        refine ⟨rr, k, h1, fun ob hob => ?_⟩
        obtain ⟨o', k1, k2, k3, k4, k5⟩ := ver id m hf ob hob
        exact ⟨k4 _ (h3 o' k1).1, fun hok => k3 _ _ _ ((h3 o' k1).2 (by rw [← k5]; exact hok))⟩
    | sub id p vr off len =>
      refine ⟨fun c hc => ?_, fun ht => by simp [isT] at ht⟩
      simp only [AV.later]
      cases hf : f id with
      | none => exact trivial
      | some m =>
        obtain ⟨b, l, cc, ha, hl, hcc, k, h1, g1, g2, g3, g4, g5, g6, h3⟩ := hc
        refine ⟨b, l, cc, ha, hl, hcc, k, h1, g1, g2, g3, g4, g5, g6, fun ob hob => ?_⟩
        obtain ⟨o', k1, k2, k3, k4, k5⟩ := ver id m hf ob hob
        exact ⟨k4 _ (h3 o' k1).1, fun hok => k3 _ _ _ ((h3 o' k1).2 (by rw [← k5]; exact hok))⟩
    | one a ih => exact ⟨fun c hc => ih.1 c hc, fun ht => by simp [isT] at ht⟩
    | pair a b iha ihb =>
      refine ⟨fun c hc => ?_, fun ht => by simp [isT] at ht⟩
      obtain ⟨c1, c2, e, h1, h2⟩ := hc
      exact ⟨c1, c2, e, iha.1 _ h1, ihb.1 _ h2⟩
    | tup a b iha ihb =>
      refine ⟨fun c hc => hc.elim, fun _ c hc => ?_⟩
      obtain ⟨v, r, e, h1, h2⟩ := hc
      refine ⟨v, r, e, toV a iha.1 iha.2 _ h1, ?_⟩
      by_cases ht : isT b = true
      · exact ihb.2 ht r h2
      · exfalso
        cases b <;> first | exact ht rfl | exact h2
    | clo g c ih =>
      refine ⟨fun cs hc => ?_, fun ht => by simp [isT] at ht⟩
      obtain ⟨l, e, h1⟩ := hc
      refine ⟨l, e, ?_⟩
      by_cases ht : isT c = true
      · exact ih.2 ht l h1
      · exfalso
        cases c <;> first | exact ht rfl | exact h1
    | tnil => exact ⟨fun c hc => hc, fun _ c hc => hc⟩
    | _ => exact ⟨fun c hc => hc, fun ht => by simp [isT] at ht⟩
  exact fun v => ⟨(both v).1, (both v).2, toV v (both v).1 (both v).2⟩
end Go.Ev

namespace Go.Ev

theorem ok_cons {o : Obj} {e : Bool × Path} {es : List (Bool × Path)} {hdr : Bool} {p : Path} {ver : Nat} (h : o.ok hdr p ver = true) {pre : List (Bool × Path)} (he : o.ev = pre ++ e :: es) (hv : ver ≤ pre.length) :
    ((pre.drop ver).all fun e => !hit e hdr p) = true ∧ hit e hdr p = false ∧ (es.all fun e => !hit e hdr p) = true := by
  unfold Obj.ok at h
  rw [he, List.drop_append_of_le_length hv, List.all_append, List.all_cons, Bool.and_eq_true, Bool.and_eq_true] at h
  exact ⟨h.1, by simpa using h.2.1, h.2.2⟩

theorem away_hit {t : Ty} {hdr : Bool} {p : Path} (h : hit t.away hdr p = false) : (p = [] ∧ (hdr = true → isBox t = true)) ∨ (isBox t = true ∧ ∀ s q, p = s :: q → s = .d → q = [] ∧ hdr = false) := by
  cases t <;> simp only [Ty.away, hit, isBox] at h ⊢
  case box t =>
    refine .inr ⟨trivial, fun s q e es => ?_⟩
    subst e; subst es
    cases q with
    | nil => refine ⟨rfl, ?_⟩; cases hdr <;> simp_all [Path.above, Path.sim]
    | cons s q => simp [Path.above] at h
  all_goals
    refine .inl ?_
    cases p with
    | nil => refine ⟨rfl, ?_⟩; cases hdr <;> simp_all [Path.above, Path.sim]
    | cons s q => simp [Path.above] at h

theorem ok_root {o : Obj} {p : Path} {hdr : Bool} (h : (o.ev.all fun e => !hit e hdr p) = true) (hp : (p = [] ∧ hdr = true) ∨ p = [.d]) : o.ok true [] 0 = true := by
  unfold Obj.ok
  rw [List.drop_zero]
  rw [List.all_eq_true] at h ⊢
  intro e he
  have := h e he
  rcases hp with ⟨rfl, rfl⟩ | rfl
  · exact this
  · simp only [hit, Bool.not_eq_true', Bool.or_eq_false_iff] at this ⊢
    obtain ⟨e1, e2⟩ := e
    cases e2 with
    | nil => simp [Path.above] at this
    | cons s q => cases s <;> simp [Path.above, Path.sim]

section
variable {S SL : Start} {B : Base} {m n n' : Nat} {s : Shape} {w0 w wr : World} {σe σr : Nat → Value} {H0 : Heap} {I1 Ir : Imm} {own1 ownr : Own} {y : HL s.leaves} {st : St} {a : Act}

theorem back_ok (E : Head S n s w0 σe H0 I1 own1 SL) (Rr : Round n s σe SL y wr Ir σr ownr) (hP : Pres B.n B.w B.I B.σ B.H w0 I1 σe H0) (hB : B.n ≤ n) (hS : ∀ j o, S.H j = some o → j < n)
    (h : At SL ⟨n, wr, Ir, σr, s.heapOf y⟩ m n' w st a) : At S B m n' w (s.back H0 st) a := by
  obtain ⟨I, σ, own, loose, R, T, P⟩ := h.ex
  replace P : Pres n wr Ir σr (s.heapOf y) w I σ st.heap := P
  obtain ⟨loose0, R1⟩ := E.inv
  have hn : n ≤ n' := h.le
  have hhas : ∀ id o, id < n → st.heap id = some o → s.has id = true := fun id o hid ho => by
    obtain ⟨o', h1, _⟩ := P.obj id o hid ho
    exact heapOf_has.1 ⟨o', h1⟩
  have hσ : ∀ j, j < n → s.has j = false → σ j = σe j := fun j hj hf => by
    have hno : s.heapOf y j = none := by
      cases e : s.heapOf y j with
      | none => rfl
      | some o => rw [heapOf_has.1 ⟨o, e⟩] at hf; simp at hf
    rw [← Rr.sig j hj hf]
    exact P.sig j hj hno
  have hlt0 : ∀ id o, H0 id = some o → id < n := fun id o ho => (R1.rel.lt id o ho).1
  -- what stands at a name
  have cases_ : ∀ id o, (s.back H0 st).heap id = some o →
      (s.has id = true ∧ ∃ o0 o', H0 id = some o0 ∧ st.heap id = some o' ∧ o = { o' with ev := o0.ev ++ o0.t.away :: o'.ev }) ∨
      (s.has id = false ∧ H0 id = some o ∧ ∀ j ∈ o.t.refs, s.has j = true → st.heap.keeps j = true ∧ H0.boxed j = true) ∨
      (H0 id = none ∧ s.has id = false ∧ n ≤ id ∧ st.heap id = some o) := by
    intro id o ho
    simp only [Shape.back] at ho
    split at ho
    · rename_i o0 h0
      split at ho
      · rename_i hh
        simp only [Option.map_eq_some_iff] at ho
        obtain ⟨o', h1, rfl⟩ := ho
        exact .inl ⟨hh, o0, o', h0, h1, rfl⟩
      · rename_i hh
        obtain ⟨hk, ho⟩ := ite_some ho
        simp only [Option.some.injEq] at ho
        subst ho
        refine .inr (.inl ⟨by simpa using hh, h0, fun j hj hs => ?_⟩)
        rw [List.all_eq_true] at hk
        have := hk j hj
        rw [hs] at this
        simpa using this
    · rename_i h0
      have hnh : s.has id = false := by
        cases e : s.has id with
        | false => rfl
        | true => obtain ⟨o', e'⟩ := E.has id e; rw [h0] at e'; simp at e'
      refine .inr (.inr ⟨h0, hnh, ?_, ho⟩)
      cases Nat.lt_or_ge id n with
      | inl hlt => have := hhas id o hlt ho; rw [hnh] at this; simp at this
      | inr hge => exact hge
  have hboxσ : ∀ id o0, H0 id = some o0 → isBox o0.t = true → s.has id = true → st.heap.keeps id = true → σ id = σe id := by
    intro id o0 h0 hb hh hk
    unfold Heap.keeps at hk
    split at hk
    · rename_i o' ho'
      obtain ⟨o1, ho1⟩ := heapOf_has (x := y).2 hh
      obtain ⟨_, o2, ho2⟩ := E.box id o0 y o1 h0 hb ho1
      rw [R.hdl id o2 o' ho2 ho' hk, E.sig id hh]
    · simp at hk
  let ownb : Own := fun id => if (H0 id).isSome && !s.has id then own1 id else own id
  have hown_as : ∀ id o, H0 id = some o → s.has id = false → ownb id = own1 id := fun id o h1 h2 => by simp [ownb, h1, h2]
  have hown_in : ∀ id, (H0 id = none ∨ s.has id = true) → ownb id = own id := fun id h => by
    rcases h with h | h <;> simp [ownb, h]
  have hOlt : ∀ b, SL.O b → b < w0.heap.size := fun b hb => by
    obtain ⟨id, o, h1, h2, h3⟩ := (E.own b).1 hb
    exact R1.lt_size h1 b h3
  have has_as : ∀ id o, H0 id = some o → s.has id = false → ∀ b ∈ own1 id, b < w0.heap.size ∧ ¬ SL.O b := fun id o h1 h2 b hb => by
    refine ⟨R1.lt_size h1 b hb, fun hO => ?_⟩
    obtain ⟨id', o', k1, k2, k3⟩ := (E.own b).1 hO
    have hne : id ≠ id' := fun e => by subst e; rw [h2] at k2; simp at k2
    exact R1.disj hne h1 k1 b hb k3
  have hblk : ∀ id o, H0 id = some o → s.has id = false → ∀ b ∈ own1 id, w.heap[b]? = w0.heap[b]? ∧ ∀ k, I b k = I1 b k := fun id o h1 h2 b hb => by
    obtain ⟨k1, k2⟩ := has_as id o h1 h2 b hb
    have := R.kept.blk b (by rw [E.wld]; exact k1) k2
    rw [E.wld] at this
    exact ⟨this.1, fun k => by rw [this.2, E.imm b k2]⟩
  have hin : ∀ id o, st.heap id = some o → ∀ b ∈ own id, SL.O b ∨ w0.heap.size ≤ b := fun id o ho b hb => by
    have := R.owns id o ho b hb; rw [E.wld] at this; exact this
  have hsep : ∀ id o, H0 id = some o → s.has id = false → ∀ b ∈ own1 id, ¬ (SL.O b ∨ w0.heap.size ≤ b) := fun id o h1 h2 b hb e => by
    obtain ⟨k1, k2⟩ := has_as id o h1 h2 b hb
    rcases e with e | e
    · exact k2 e
    · omega
  have hSO : ∀ b, SL.O b ∨ w0.heap.size ≤ b → S.O b ∨ S.w.heap.size ≤ b := fun b hb => by
    rcases hb with hb | hb
    · obtain ⟨id, o, h1, h2, h3⟩ := (E.own b).1 hb
      exact R1.owns id o h1 b h3
    · exact .inr (Nat.le_trans R1.kept.size hb)
  have hle : I1.le I := Imm.le_trans E.le R.kept.le
  have hrepA : ∀ id o, H0 id = some o → s.has id = false → (∀ j ∈ o.t.refs, s.has j = true → st.heap.keeps j = true ∧ H0.boxed j = true) → TRep w I σ o.t [σ id] o.x (own1 id) := by
    intro id o h1 h2 h3
    rw [hσ id (hlt0 id o h1) h2]
    refine (R1.rel.rep id o h1).frame hle (hblk id o h1 h2) fun j hj => ?_
    cases hs : s.has j with
    | false => exact hσ j ((R1.rel.lt id o h1).2 j hj) hs
    | true =>
      obtain ⟨k1, k2⟩ := h3 j hj hs
      obtain ⟨oj, hoj⟩ := E.has j hs
      refine hboxσ j oj hoj ?_ hs k1
      unfold Heap.boxed at k2
      rw [hoj] at k2
      exact k2
  have hInv : Inv S n' w I σ (s.back H0 st).heap ownb loose := by
    refine ⟨⟨R.rel.imm, fun id o ho => ?_, fun id o ho => ?_, fun i j oi oj hij hi hj b hb hb' => ?_, fun id o ho => ?_⟩, ?_, fun id o ho b hb => ?_, R.lnd, fun id o ho b hb hb' => ?_, fun b hb => ?_, fun id so o hso ho hok => ?_⟩
    · rcases cases_ id o ho with ⟨h1, o0, o', h2, h3, rfl⟩ | ⟨h1, h2, h3⟩ | ⟨h1, h2, h3, h4⟩
      · rw [hown_in id (.inr h1)]; exact R.rel.rep id o' h3
      · rw [hown_as id o h2 h1]; exact hrepA id o h2 h1 h3
      · rw [hown_in id (.inl h1)]; exact R.rel.rep id o h4
    · rcases cases_ id o ho with ⟨h1, o0, o', h2, h3, rfl⟩ | ⟨h1, h2, h3⟩ | ⟨h1, h2, h3, h4⟩
      · rw [hown_in id (.inr h1)]; exact R.rel.nd id o' h3
      · rw [hown_as id o h2 h1]; exact R1.rel.nd id o h2
      · rw [hown_in id (.inl h1)]; exact R.rel.nd id o h4
    · have side : ∀ id o, (s.back H0 st).heap id = some o → (∃ o', st.heap id = some o' ∧ ownb id = own id) ∨ (∃ o', H0 id = some o' ∧ s.has id = false ∧ ownb id = own1 id) := fun id o ho => by
        rcases cases_ id o ho with ⟨h1, o0, o', h2, h3, rfl⟩ | ⟨h1, h2, h3⟩ | ⟨h1, h2, h3, h4⟩
        · exact .inl ⟨o', h3, hown_in id (.inr h1)⟩
        · exact .inr ⟨o, h2, h1, hown_as id o h2 h1⟩
        · exact .inl ⟨o, h4, hown_in id (.inl h1)⟩
      rcases side i oi hi with ⟨o1, k1, k2⟩ | ⟨o1, k1, k2, k3⟩ <;> rcases side j oj hj with ⟨o2, f1, f2⟩ | ⟨o2, f1, f2, f3⟩
      · rw [k2] at hb; rw [f2] at hb'; exact R.disj hij k1 f1 b hb hb'
      · rw [k2] at hb; rw [f3] at hb'; exact hsep j o2 f1 f2 b hb' (hin i o1 k1 b hb)
      · rw [k3] at hb; rw [f2] at hb'; exact hsep i o1 k1 k2 b hb (hin j o2 f1 b hb')
      · rw [k3] at hb; rw [f3] at hb'; exact R1.disj hij k1 f1 b hb hb'
    · rcases cases_ id o ho with ⟨h1, o0, o', h2, h3, rfl⟩ | ⟨h1, h2, h3⟩ | ⟨h1, h2, h3, h4⟩
      · exact R.rel.lt id o' h3
      · have := R1.rel.lt id o h2; exact ⟨by omega, fun j hj => by have := this.2 j hj; omega⟩
      · exact R.rel.lt id o h4
    · have k1 : Kept w0 SL.w I1 SL.I SL.O := by
        rw [E.wld]
        exact ⟨rfl, rfl, rfl, Nat.le_refl _, fun b _ hb => ⟨rfl, E.imm b hb⟩, E.le⟩
      refine R1.kept.trans (k1.trans R.kept fun b hb => .inl hb) fun b hb => hSO b (.inl hb)
    · rcases cases_ id o ho with ⟨h1, o0, o', h2, h3, rfl⟩ | ⟨h1, h2, h3⟩ | ⟨h1, h2, h3, h4⟩
      · rw [hown_in id (.inr h1)] at hb; exact hSO b (hin id o' h3 b hb)
      · rw [hown_as id o h2 h1] at hb; exact R1.owns id o h2 b hb
      · rw [hown_in id (.inl h1)] at hb; exact hSO b (hin id o h4 b hb)
    · rcases cases_ id o ho with ⟨h1, o0, o', h2, h3, rfl⟩ | ⟨h1, h2, h3⟩ | ⟨h1, h2, h3, h4⟩
      · rw [hown_in id (.inr h1)] at hb'; exact R.ldj id o' h3 b hb hb'
      · rw [hown_as id o h2 h1] at hb'
        have := (R.lown b hb).1
        rw [E.wld] at this
        exact hsep id o h2 h1 b hb' this
      · rw [hown_in id (.inl h1)] at hb'; exact R.ldj id o h4 b hb hb'
    · have := R.lown b hb
      rw [E.wld] at this
      exact ⟨hSO b this.1, this.2⟩
    · rcases cases_ id o ho with ⟨h1, o0, o', h2, h3, rfl⟩ | ⟨h1, h2, h3⟩ | ⟨h1, h2, h3, h4⟩
      · obtain ⟨k1, k2, k3⟩ := ok_cons hok rfl (Nat.zero_le _)
        have hbx : isBox o0.t = true := by
          rcases away_hit k2 with ⟨_, e⟩ | ⟨e, _⟩
          · exact e rfl
          · exact e
        rw [hboxσ id o0 h2 hbx h1 (by unfold Heap.keeps; rw [h3]; exact ok_root k3 (.inl ⟨rfl, rfl⟩))]
        exact R1.hdl id so o0 hso h2 (by unfold Obj.ok; exact k1)
      · rw [hσ id (hlt0 id o h2) h1]; exact R1.hdl id so o hso h2 hok
      · have := hS id so hso; omega
  have hP2 : Pres n w0 I1 σe H0 w I σ (s.back H0 st).heap := by
    refine ⟨hle, fun id ob' hid hob' => ?_, fun id hid hno => ?_, fun id ob ob' hid hob hob' hok => ?_⟩
    · rcases cases_ id ob' hob' with ⟨h1, o0, o', h2, h3, rfl⟩ | ⟨h1, h2, h3⟩ | ⟨h1, h2, h3, h4⟩
      · refine ⟨o0, h2, ⟨o0.t.away :: o'.ev, rfl⟩, fun hdr p ver hv hok u' hu' => ?_⟩
        obtain ⟨k1, k2, k3⟩ := ok_cons hok rfl hv
        obtain ⟨oy, hoy⟩ := heapOf_has (x := y).2 h1
        obtain ⟨ob, hob, hOP⟩ := P.obj id o' hid h3
        rw [hoy] at hob
        injection hob with hob
        subst hob
        have hey : oy.ev = [] := Rr.ev id oy hoy
        obtain ⟨uy, g1, g2, g3⟩ := hOP.at_ hdr p 0 (Nat.zero_le _) (by unfold Obj.ok; rw [List.drop_zero]; exact k3) u' hu'
        by_cases hbx : isBox o0.t = true
        · obtain ⟨hby, oS, hoS⟩ := E.box id o0 y oy h2 hbx hoy
          obtain ⟨t0, x0, e0⟩ := o0
          obtain ⟨ty, xy, ey⟩ := oy
          simp only at hbx hby hey g1 g2 g3 k2 hv
          subst hey
          cases t0 <;> simp [isBox] at hbx
          cases ty <;> simp [isBox] at hby
          rename_i ta tb
          have hp : p = [] ∨ (p = [.d] ∧ hdr = false) := by
            rcases away_hit k2 with ⟨e, _⟩ | ⟨_, e⟩
            · exact .inl e
            · cases p with
              | nil => exact .inl rfl
              | cons sp q =>
                cases sp <;> simp [Ty.get] at g1
                obtain ⟨e1, e2⟩ := e _ _ rfl rfl
                subst e1
                exact .inr ⟨rfl, e2⟩
          have hσr : σr id = σe id := by
            rw [Rr.inv.hdl id oS _ hoS hoy (by simp [Obj.ok]), E.sig id h1]
          rcases hp with rfl | ⟨rfl, rfl⟩
          · simp only [Ty.get, Option.some.injEq] at g1
            subst g1
            refine ⟨⟨.box ta, x0⟩, by simp [Ty.get], fun e eh => ?_, fun _ => ⟨inb_nil _ _, fun s1 hs1 => ?_⟩⟩
            · have := (g2 e eh).2
              exact ⟨rfl, by rw [← this]; rfl⟩
            · rw [spot_nil] at hs1
              simp only [Option.some.injEq] at hs1
              subst hs1
              refine ⟨_, spot_nil _ _ _ _ _ _, rfl, rfl, fun e eh => ?_⟩
              subst e
              simp only
              rw [hboxσ id _ h2 rfl h1 (by unfold Heap.keeps; rw [h3]; exact ok_root k3 (.inl ⟨rfl, rfl⟩))]
          · have hrep := Rr.inv.rel.rep id _ hoy
            obtain ⟨b, es, ow, q1, ⟨eid, q2⟩, _⟩ := hrep
            simp only [List.cons.injEq, and_true] at q1
            have hrep0 := R1.rel.rep id _ h2
            obtain ⟨b0, es0, ow0, q3, ⟨eid0, q4⟩, _⟩ := hrep0
            simp only [List.cons.injEq, and_true] at q3
            have hbb : b0 = b := by rw [hσr, q3] at q1; simpa using q1
            refine ⟨⟨ta, x0⟩, by simp [Ty.get], fun e => by simp at e, fun _ => ?_⟩
            obtain ⟨f1, f2⟩ := g3 (by simp [Inb, inb_nil])
            refine ⟨f1, fun s1 hs1 => ?_⟩
            obtain ⟨s', c1, c2, c3, c4⟩ := f2 ⟨true, some b, 0, es.toList⟩ (by simp [spot, hdrBlk, q1, q2, spot_nil])
            refine ⟨s', c1, ?_, ?_, fun e => by simp at e⟩
            · rw [c2]
              simp [spot, hdrBlk, q3, q4, spot_nil] at hs1
              rw [← hs1, hbb]
            · rw [c3]
              simp [spot, hdrBlk, q3, q4, spot_nil] at hs1
              rw [← hs1]
        · rcases away_hit k2 with ⟨rfl, e⟩ | ⟨e, _⟩
          · have hh : hdr = false := by
              cases hdr with
              | false => rfl
              | true => exact absurd (e rfl) hbx
            subst hh
            refine ⟨⟨o0.t, o0.x⟩, by simp [Ty.get], fun e => by simp at e, fun _ => ⟨inb_nil _ _, fun s1 hs1 => ?_⟩⟩
            rw [spot_nil] at hs1
            simp only [Option.some.injEq] at hs1
            subst hs1
            exact ⟨_, spot_nil _ _ _ _ _ _, rfl, rfl, fun e => by simp at e⟩
          · exact absurd e hbx
      · exact ⟨ob', h2, ObjPres.same (R1.rel.rep id ob' h2) (fun b hb => (hblk id ob' h2 h1 b hb).1) (hσ id hid h1)⟩
      · omega
    · refine hσ id hid ?_
      cases e : s.has id with
      | false => rfl
      | true => obtain ⟨o', e'⟩ := E.has id e; rw [hno] at e'; simp at e'
    · rcases cases_ id ob' hob' with ⟨h1, o0, o', h2, h3, rfl⟩ | ⟨h1, h2, h3⟩ | ⟨h1, h2, h3, h4⟩
      · rw [hob] at h2
        injection h2 with h2
        subst h2
        obtain ⟨k1, k2, k3⟩ := ok_cons hok rfl (Nat.le_refl _)
        have hbx : isBox ob.t = true := by
          rcases away_hit k2 with ⟨_, e⟩ | ⟨e, _⟩
          · exact e rfl
          · exact e
        exact hboxσ id ob hob hbx h1 (by unfold Heap.keeps; rw [h3]; exact ok_root k3 (.inl ⟨rfl, rfl⟩))
      · exact hσ id hid h1
      · omega
  refine ⟨⟨I, σ, ownb, loose, hInv, ⟨fun t => ?_, fun t id hid => T.ids t id (later_ids _ _ id hid)⟩, hP.trans (hP2.less hB)⟩, by omega, fun j o ho => by have := hS j o ho; omega, h.defers, h.size⟩
  refine (later_ok ?_ (st.tmps t)).2.2 _ (T.val t)
  intro id k hk ob hob
  rcases cases_ id ob hob with ⟨h1, o0, o', h2, h3, rfl⟩ | ⟨h1, h2, h3⟩ | ⟨h1, h2, h3, h4⟩
  · rw [h2] at hk
    simp only [h1, if_true, Option.some.injEq] at hk
    subst hk
    exact ⟨o', h3, rfl, HEq.rfl, o0.ev ++ [o0.t.away], by simp, by simp⟩
  · rw [h2] at hk
    simp [h1] at hk
  · rw [h1] at hk
    simp only [Option.some.injEq] at hk
    subst hk
    exact ⟨ob, h4, rfl, HEq.rfl, [], rfl, by simp⟩
end
end Go.Ev

