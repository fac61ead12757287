/- A way to show what code computes: part 5: no condition. -/
import Derived.Test.YtocefhfihimjdaaE4
import Derived.Calls
set_option linter.unusedVariables false
namespace Go.Ev

/-- What an operation does, seen from without. -/
def Ran (P : Program) (w : World) (x : Sem Next) (K : Value → World → Prop) : Prop :=
  match x.run P w with
  | .ok (.value v) w' => K v w'
  | .ok .skip w' => K undef w'
  | .ok (.enter f args) w' => Calls P f args w' fun e w'' => ∃ v, e = .returned v ∧ K v w''
  | _ => False

section
variable {P : Program} {w w' : World} {x : Sem Next} {K K' : Value → World → Prop}
theorem Ran.value {v : Value} (h : x.run P w = .ok (.value v) w') (hk : K v w') : Ran P w x K := by unfold Ran; rw [h]; exact hk
theorem Ran.skip (h : x.run P w = .ok .skip w') (hk : K undef w') : Ran P w x K := by unfold Ran; rw [h]; exact hk
theorem Ran.enter {f : FuncId} {args : Array Value} (h : x.run P w = .ok (.enter f args) w') (hk : Calls P f args w' fun e w'' => ∃ v, e = .returned v ∧ K v w'') : Ran P w x K := by unfold Ran; rw [h]; exact hk
theorem Ran.mono (h : Ran P w x K) (hk : ∀ v w', K v w' → K' v w') : Ran P w x K' := by
  unfold Ran at *
  split at h
  · exact hk _ _ h
  · exact hk _ _ h
  · exact Calls.mono h fun e w'' ⟨v, h1, h2⟩ => ⟨v, h1, hk _ _ h2⟩
  · exact h.elim
theorem Ran.wp {o : Oper} {a : Act} {next : Act → World → Prop} {Q : Exit → Act → World → Prop} (h : Ran P w (execOp a.eval o) K) (hk : ∀ v w', K v w' → next (a.put o.dst v) w') : o.wp P a w next Q := by
  unfold Ran at h
  unfold Oper.wp
  split at h
  · rename_i e; rw [e]; exact hk _ _ h
  · rename_i e; rw [e]; exact hk _ _ h
  · rename_i e; rw [e]
    refine Calls.mono h fun e w'' ⟨v, h1, h2⟩ => ?_
    subst h1
    exact hk _ _ h2
  · exact h.elim
end

section
variable {S : Start} {n n' : Nat} {w : World} {I : Imm} {σ : Nat → Value} {H : Heap} {own : Own} {loose : List Nat}

/-- An operation is done: it ran, and what came out is what is told to go on with. -/
def Done {R : Type} (P : Program) (S : Start) (n n' : Nat) (w : World) (I : Imm) (σ : Nat → Value) (H : Heap) (k : AV → Heap → Option R) (r : R) (x : Sem Next) : Prop :=
  Ran P w x fun v w' => ∃ (av : AV) (I' : Imm) (σ' : Nat → Value) (H' : Heap) (own' : Own) (loose' : List Nat), k av H' = some r ∧
    Inv S n' w' I' σ' H' own' loose' ∧ Pres n w I σ H w' I' σ' H' ∧ AvV w' I' σ' H' av v ∧ ∀ id ∈ av.ids, id < n'

variable {RR : Type} {P : Program} {k : AV → Heap → Option RR} {r : RR} {x : Sem Next}

theorem Done.same (R : Inv S n w I σ H own loose) (h : n ≤ n') {v : Value} {av : AV} (hx : x.run P w = .ok (.value v) w) (hk : k av H = some r) (hv : AvV w I σ H av v) (hi : ∀ id ∈ av.ids, id < n) : Done P S n n' w I σ H k r x :=
  .value hx ⟨av, I, σ, H, own, loose, hk, R.more h, Pres.refl _ _ _ _ _, hv, fun id hid => by have := hi id hid; omega⟩

/-- A new slice that is nil. -/
theorem new_nil (R : Inv S n w I σ H own loose) (hn : n < n') {t : Ty} (hr : t.refs = []) (hS : ∀ j o, S.H j = some o → j < n) :
    ∃ σ' own', Inv S n' w I σ' (H.put n (some ⟨.vec false t, ([] : List t.den), []⟩)) own' loose ∧ Pres n w I σ H w I σ' (H.put n (some ⟨.vec false t, ([] : List t.den), []⟩)) ∧
      AvV w I σ' (H.put n (some ⟨.vec false t, ([] : List t.den), []⟩)) (.slw n [] 0) (.slice none 0 0) :=
  new_vec (S := S) (ou := []) (own1 := []) R (Nat.le_refl n) hn (show TRep w I σ (.vec false t) [.slice none 0 0] ([] : List t.den) [] from ⟨none, 0, rfl, by simp, by decide, .inl ⟨rfl, rfl, rfl, rfl⟩⟩) rfl
    (Kept.refl _ _ _) R.rel.imm (by simp) (by simp) (by rw [show Ty.refs (.vec false t) = t.refs from rfl, hr]; simp) hS

section
variable {C : Handler} {o : Oper} {st : St} {a : Act}

theorem move_ok {y : Operand} (R : Inv S n w I σ st.heap own loose) (T : TRel n w I σ st a) (hn : n ≤ n') (h : k (st.eval y) st.heap = some r) (hx : x.run P w = .ok (.value (a.eval y)) w) : Done P S n n' w I σ st.heap k r x :=
  Done.same R hn hx h (eval_ok T y).1 (eval_ok T y).2

theorem assign_ok {y : Operand} (R : Inv S n w I σ st.heap own loose) (T : TRel n w I σ st a) (hn : n < n') (hS : ∀ j o, S.H j = some o → j < n) (ho : o.op = .assign y) (h : evOp P C o.op o.type st n k = some r) :
    Done P S n n' w I σ st.heap k r (execOp a.eval o) := by
  have hx : (execOp a.eval o).run P w = .ok (.value (a.eval y)) w := by simp [execOp, ho]
  obtain ⟨hv, hi⟩ := eval_ok T y
  rw [ho] at h
  simp only [evOp] at h
  split at h
  · rename_i he
    rw [he] at hv
    have hv := hv.nsl_inv
    rw [hv] at hx
    split at h
    · simp only [Option.bind_eq_some_iff] at h
      obtain ⟨t, ht, h⟩ := h
      split at h
      · rename_i hr
        obtain ⟨σ', own', k1, k2, k3⟩ := new_nil (n' := n') R hn (List.isEmpty_iff.1 hr) hS
        exact .value hx ⟨_, I, σ', _, own', loose, h, k1, k2, k3, by simp [AV.ids]; omega⟩
      · simp at h
    · simp at h
  · exact move_ok R T (by omega) h hx

theorem pick_ok {c y z : Operand} (R : Inv S n w I σ st.heap own loose) (T : TRel n w I σ st a) (hn : n ≤ n') (ho : o.op = .pick c y z) (h : evOp P C o.op o.type st n k = some r) :
    Done P S n n' w I σ st.heap k r (execOp a.eval o) := by
  obtain ⟨hv, hi⟩ := eval_ok T c
  rw [ho] at h
  simp only [evOp] at h
  have key : ∀ t : Bool, a.eval c = .bool t → (if t then k (st.eval y) st.heap else k (st.eval z) st.heap) = some r → Done P S n n' w I σ st.heap k r (execOp a.eval o) := by
    intro t ht hk
    cases t with
    | true => exact move_ok (y := y) R T hn hk (by simp [execOp, ho, ht, asBool])
    | false => exact move_ok (y := z) R T hn hk (by simp [execOp, ho, ht, asBool])
  split at h
  · rename_i t he
    rw [he] at hv
    exact key t hv.lb_inv h
  · rename_i t he
    rw [he] at hv
    rw [br_eq] at h
    exact key t hv.bool_inv h
  · simp at h

theorem nilCheck_ok {y : Operand} (R : Inv S n w I σ st.heap own loose) (T : TRel n w I σ st a) (hn : n ≤ n') (ho : o.op = .nilCheck y) (h : evOp P C o.op o.type st n k = some r) :
    Done P S n n' w I σ st.heap k r (execOp a.eval o) := by
  obtain ⟨hv, hi⟩ := eval_ok T y
  rw [ho] at h
  simp only [evOp] at h
  split at h
  · rename_i id p q off ver he
    refine move_ok (y := y) R T hn (by rw [he]; exact h) ?_
    rw [he] at hv
    obtain ⟨b, o', base, h1, _⟩ := hv.one rfl rfl
    simp only [List.cons.injEq, and_true] at h1
    simp [execOp, ho, h1]
  · rename_i t y' he
    refine move_ok (y := y) R T hn (by rw [he]; exact h) ?_
    rw [he] at hv
    obtain ⟨_, b, o', es, h1, _⟩ := hv.one rfl rfl
    simp only [List.cons.injEq, and_true] at h1
    simp [execOp, ho, h1]
  · rename_i f c he
    refine move_ok (y := y) R T hn (by rw [he]; exact h) ?_
    rw [he] at hv
    obtain ⟨l, h1, _⟩ := hv.one rfl rfl
    simp only [List.cons.injEq, and_true] at h1
    simp [execOp, ho, h1]
  · simp at h

theorem run_alloc {e : TypeId} {i : TypeInfo} {z old : Value} (h : P.info? e = some i) (hz : i.zero = some z) : (Instr.alloc e true old).run P w = .ok (.pointer (some ⟨w.heap.size, 0, none⟩)) { w with heap := w.heap.push (.cells z.cells e) } := by
  simp only [Instr.alloc, Sem.run_bind, run_zero h hz, Result.andThen_ok, newVar, run_newRow, Sem.run_pure]

theorem alloc_ok {e : TypeId} (R : Inv S n w I σ st.heap own loose) (T : TRel n w I σ st a) (hn : n < n') (hS : ∀ j o, S.H j = some o → j < n) (ho : o.op = .alloc e) (h : evOp P C o.op o.type st n k = some r) :
    Done P S n n' w I σ st.heap k r (execOp a.eval o) := by
  rw [ho] at h
  simp only [evOp, Option.bind_eq_some_iff] at h
  obtain ⟨t, ht, h⟩ := h
  split at h
  · rename_i hc
    simp only [Bool.and_eq_true] at hc
    obtain ⟨hz, i, z, hi, hiz, hcs⟩ := zeroOk_ok hc.2
    obtain ⟨σ', own', k1, k2, k3⟩ := new_box (n' := n') (ou := []) R (grew_push w z.cells e) (t := t) (x := t.zero) (by rw [hcs]; exact zero_ok hz) (Nat.le_refl n) hn (by rw [zok_refs hz]; simp) hS
    refine .value ?_ ⟨_, I, σ', _, own', loose, h, k1, k2, k3, by simp [AV.ids]; omega⟩
    simp only [execOp, ho, Sem.run_bind, run_alloc hi hiz, Result.andThen_ok, Sem.run_pure]
  · simp at h

theorem box_ok {e : TypeId} {y : Operand} (R : Inv S n w I σ st.heap own loose) (T : TRel n w I σ st a) (hn : n < n') (hS : ∀ j o, S.H j = some o → j < n) (hT : isT (st.eval y) = false) (ho : o.op = .box e y) (h : evOp P C o.op o.type st n k = some r) :
    Done P S n n' w I σ st.heap k r (execOp a.eval o) := by
  rw [ho] at h
  simp only [evOp, Option.bind_eq_some_iff] at h
  obtain ⟨t, ht, ⟨v, H1⟩, h1, h⟩ := h
  obtain ⟨hv, hi⟩ := eval_ok T y
  obtain ⟨I1, own1, ou1, G, hTR, hrefs⟩ := tv_ok _ R h1 hi (hv.c hT)
  split at h
  · obtain ⟨σ', own', k1, k2, k3⟩ := new_box (n' := n') (ou := ou1) G.inv (grew_push w (a.eval y).cells e) hTR (Nat.le_refl n) hn hrefs hS
    refine .value ?_ ⟨_, I1, σ', _, own', loose, h, k1, G.pres.trans k2, k3, by simp [AV.ids]; omega⟩
    simp only [execOp, ho, Instr.box, newVar, Sem.run_bind, run_newRow, Result.andThen_ok, Sem.run_pure]
  · simp at h

end
end
end Go.Ev

namespace Go.Ev

theorem szOk_ok {P : Program} {T : TypeId} {k : Nat} (h : szOk P T k = true) : ∃ i, P.info? T = some i ∧ i.size = k := by
  unfold szOk at h
  split at h
  · rename_i i hi; exact ⟨i, hi, by simpa using h⟩
  · simp at h
theorem run_szOk {P : Program} {T : TypeId} {k : Nat} (h : szOk P T k = true) (w : World) : (sizeOf T).run P w = .ok k w := by
  obtain ⟨i, h1, h2⟩ := szOk_ok h
  rw [run_sz h1, h2]

section
variable {S : Start} {n n' : Nat} {w : World} {I : Imm} {σ : Nat → Value} {H : Heap} {own : Own} {loose : List Nat}

theorem avv_cells {av : AV} {t : Ty} {cs : List Value} {v : Value} (ht : isT av = false) (ha : av.agg = some t.isAgg ∨ av.agg = none) (hc : AvC w I σ H av cs) (h1 : ∀ c ∈ cs, c.oneCell' = true) (hv : OfCells t cs v) : AvV w I σ H av v := by
  refine valRel_of ht (by rw [hv.cells h1]; exact hc) (fun e => ?_) (fun e c hcc => ?_)
  · rcases ha with ha | ha
    · rw [ha] at e; injection e with e; exact ⟨_, hv.1 e⟩
    · rw [ha] at e; simp at e
  · rcases ha with ha | ha
    · rw [ha] at e
      injection e with e
      have := h1 v (by rw [hv.2 e]; simp)
      rw [hcc] at this
      simp [Value.oneCell'] at this
    · rw [ha] at e; simp at e

theorem AvV.dat {t : Ty} {x : t.den} {cs : List Value} {v : Value} (hp : t.pure = true) (hr : TRep w I σ t cs x []) (hv : OfCells t cs v) : AvV w I σ H (.dat t x) v :=
  avv_cells rfl (.inl rfl) ⟨hp, hr⟩ hr.one hv

theorem place_isT {a : AV} {pl : Place} (h : H.place a = some pl) : isT a = false ∧ a.agg = some false := by
  cases a <;> simp [Heap.place] at h <;> exact ⟨rfl, rfl⟩
theorem tv_isT {a : AV} {u : Ty} {r : TV × Heap} (h : H.tv a u = some r) : isT a = false := by
  cases a <;> first | rfl | (simp [Heap.tv] at h)

variable {RR : Type} {P : Program} {k : AV → Heap → Option RR} {r : RR} {x : Sem Next}
variable {C : Handler} {o : Oper} {st : St} {a : Act}

theorem load_ok {T' : TypeId} {y : Operand} (R : Inv S n w I σ st.heap own loose) (T : TRel n w I σ st a) (hn : n ≤ n') (ho : o.op = .load T' y) (h : evOp P C o.op o.type st n k = some r) :
    Done P S n n' w I σ st.heap k r (execOp a.eval o) := by
  obtain ⟨hv, hi⟩ := eval_ok T y
  rw [ho] at h
  simp only [evOp] at h
  split at h
  · rename_i u z he
    split at h
    · rename_i hc
      rw [he] at hv
      obtain ⟨hp, b, off, es, h1, h2, h3⟩ := hv.one rfl rfl
      simp only [List.cons.injEq, and_true] at h1
      obtain ⟨v, k1, k2⟩ := run_loadVar (P := P) hc h2.len (fun j v hv => R.rel.imm b (off + j) v (h3 j v hv))
      refine Done.same R hn ?_ h (AvV.dat hp h2 k2) (by simp [AV.ids])
      simp [execOp, ho, Instr.loadAt, h1, Instr.sureAddr, k1]
    · simp at h
  · simp only [Option.bind_eq_some_iff] at h
    obtain ⟨pl, hpl, h⟩ := h
    split at h
    · rename_i hc
      have hpt := place_isT hpl
      obtain ⟨p1, p2, p3, p4, b, off, s, ou, pre, post, lh, h1, F, hb, hoff⟩ := place_ok R hpl (hv.one hpt.1 hpt.2)
      simp only [List.cons.injEq, and_true] at h1
      obtain ⟨c, es, e1, e2, e3, e4, e5⟩ : ∃ c es, s.blk = some c ∧ c ∈ pre ∧ Blk w c es ∧ s.cells = (es.toList.drop s.off).take pl.v.t.width ∧ s.off + pl.v.t.width ≤ es.size := by
        cases lh with
        | true => exact F.there rfl
        | false => have := (F.here rfl).1; rw [hb] at this; simp at this
      rw [hb] at e1
      injection e1 with e1
      subst e1
      obtain ⟨v, k1, k2⟩ := run_loadVar (P := P) (b := b) (o := off) hc F.rep.len (fun j v hv => blk_cells e3 (by rw [← hoff]; exact e4) j v hv)
      obtain ⟨g1, g2⟩ := get_ok R p1 pl.v.t pl.v.x pl.p s ou p2 p3 F.spot F.rep
      have g3 := get_one pl.v.t pl.id pl.o.ev.length pl.v.x pl.p
      refine Done.same R hn ?_ h (avv_cells g3.1 g3.2 g1 F.rep.one k2) g2
      simp [execOp, ho, Instr.loadAt, h1, Instr.sureAddr, k1]
    · simp at h

theorem store_done {T' : TypeId} {y z : Operand} (R : Inv S n w I σ st.heap own loose) (T : TRel n w I σ st a) (hn : n ≤ n') (ho : o.op = .store T' y z) (h : evOp P C o.op o.type st n k = some r) :
    Done P S n n' w I σ st.heap k r (execOp a.eval o) := by
  obtain ⟨hv, hi⟩ := eval_ok T y
  obtain ⟨hv2, hi2⟩ := eval_ok T z
  rw [ho] at h
  simp only [evOp, Option.bind_eq_some_iff] at h
  obtain ⟨H', h1, h⟩ := h
  have h1' := h1
  simp only [Heap.store, Option.bind_eq_some_iff] at h1'
  obtain ⟨pl, q1, tv, q2, _⟩ := h1'
  have hpt := place_isT q1
  obtain ⟨b, off, w', I', own', loose', e1, e2, e3, e4⟩ := store_ok R h1 hi hi2 (hv.one hpt.1 hpt.2) (hv2.c (tv_isT q2))
  simp only [List.cons.injEq, and_true] at e1
  refine .skip ?_ ⟨.any, I', σ, H', own', loose', h, e3.more hn, e4, avv_any, by simp [AV.ids]⟩
  simp [execOp, ho, Instr.storeAt, e1, Instr.sureAddr, e2]

theorem field_run {P : Program} {s : TypeId} {fs : Array Field} {f : Nat} {fd : Field} {b o : Nat} (hu : P.underlying s = some (.struct fs)) (hf : fs[f]? = some fd) {i : TypeInfo} (hi : P.info? fd.type = some i) (h0 : i.size ≠ 0) :
    (Instr.fieldAt s (.pointer (some ⟨b, o, none⟩)) f).run P w = .ok (.pointer (some ⟨b, o + fd.offset, none⟩)) w := by
  simp only [Instr.fieldAt, Sem.run_bind, run_und hu, Result.andThen_ok, hf, Instr.sureAddr, Sem.run_pure, fieldPlace, run_sz hi, if_neg h0, addr_add]

theorem vptr_field {t : Ty} {x : t.den} : ∀ (q : Path) (t : Ty) (k : Nat) (u : Ty) (x : t.den) (v : TV) (es : List Value), Ty.field t q = some (k, u) → t.get x q = some v → t.pure = true → TRep w I σ t es x [] →
    v.t = u ∧ v.t.pure = true ∧ TRep w I σ v.t ((es.drop k).take v.t.width) v.x [] ∧ k + v.t.width ≤ es.length := by
  intro q
  induction q with
  | nil =>
    intro t k u x v es hf hg hp hr
    simp only [Ty.field, Option.some.injEq, Prod.mk.injEq] at hf
    obtain ⟨rfl, rfl⟩ := hf
    simp only [Ty.get, Option.some.injEq] at hg
    subst hg
    refine ⟨rfl, hp, ?_, by simp [hr.len]⟩
    simp only [List.drop_zero]
    rw [List.take_of_length_le (by rw [hr.len]; exact Nat.le_refl _)]
    exact hr
  | cons s q ih =>
    intro t k u x v es hf hg hp hr
    cases s <;> cases t <;> simp only [Ty.field, reduceCtorEq] at hf <;> simp only [Ty.get] at hg
    case o.one t => exact ih t k u x v es hf hg hp hr
    case l.pair t1 t2 =>
      obtain ⟨c1, c2, o1, o2, rfl, ho, h1, h2⟩ := hr
      simp only [Ty.pure, Bool.and_eq_true] at hp
      have := List.append_eq_nil_iff.1 ho.symm
      rw [this.1] at h1
      obtain ⟨g1, g2, g3, g4⟩ := ih t1 k u x.1 v c1 hf hg hp.1 h1
      refine ⟨g1, g2, ?_, by simp; omega⟩
      rw [List.drop_append_of_le_length (by omega), List.take_append_of_le_length (by simp; omega)]
      exact g3
    case r.pair t1 t2 =>
      obtain ⟨c1, c2, o1, o2, rfl, ho, h1, h2⟩ := hr
      simp only [Ty.pure, Bool.and_eq_true] at hp
      have := List.append_eq_nil_iff.1 ho.symm
      rw [this.2] at h2
      simp only [Option.map_eq_some_iff, Prod.mk.injEq] at hf
      obtain ⟨⟨k', u'⟩, hf, rfl, rfl⟩ := hf
      obtain ⟨g1, g2, g3, g4⟩ := ih t2 k' u' x.2 v c2 hf hg hp.2 h2
      refine ⟨g1, g2, ?_, by simp [h1.len]; omega⟩
      simp only
      rw [show k' + t1.width = c1.length + k' from by rw [h1.len]; omega, List.drop_length_add_append]
      exact g3

theorem getElem?_seg {α : Type} {l : List α} {k m j : Nat} {v : α} (h : ((l.drop k).take m)[j]? = some v) : l[k + j]? = some v := by
  rw [List.getElem?_take] at h
  split at h
  · rwa [List.getElem?_drop] at h
  · simp at h

theorem fieldAddr_ok {s : TypeId} {y : Operand} {f : Nat} (R : Inv S n w I σ st.heap own loose) (T : TRel n w I σ st a) (hn : n ≤ n') (ho : o.op = .fieldAddr s y f) (h : evOp P C o.op o.type st n k = some r) :
    Done P S n n' w I σ st.heap k r (execOp a.eval o) := by
  obtain ⟨hv, hi⟩ := eval_ok T y
  rw [ho] at h
  simp only [evOp] at h
  split at h
  · rename_i fs hu
    split at h
    · rename_i fd hf
      split at h
      · rename_i id p q off ver he
        split at h
        · rename_i hsz
          simp only [Bool.and_eq_true, Bool.not_eq_true'] at hsz
          obtain ⟨hz1, hz2⟩ := hsz
          obtain ⟨i, hinf⟩ := Option.isSome_iff_exists.1 hz2
          have hz : i.size ≠ 0 := by simp [szOk, hinf] at hz1; exact hz1
          rw [he] at hv hi
          obtain ⟨b, o', base, h1, h2, h3⟩ := hv.one rfl rfl
          simp only [List.cons.injEq, and_true] at h1
          refine Done.same (v := .pointer (some ⟨b, o' + fd.offset, none⟩)) R hn ?_ h (AvV.mk rfl rfl ⟨b, o' + fd.offset, base, rfl, by omega, h3⟩ (fun c => by simp)) (by simpa [AV.ids] using hi)
          simp only [execOp, ho, h1, Sem.run_bind, field_run hu hf hinf hz, Result.andThen_ok, Sem.run_pure]
        · simp at h
      · rename_i t z he
        split at h
        · rename_i off u hfd
          split at h
          · rename_i hc
            simp only [Bool.and_eq_true, beq_iff_eq, bne_iff_ne] at hc
            obtain ⟨⟨rfl, hsz⟩, hw0⟩ := hc
            simp only [Option.bind_eq_some_iff] at h
            obtain ⟨v, hg, h⟩ := h
            obtain ⟨i, hinf, his⟩ := szOk_ok hsz
            rw [he] at hv
            obtain ⟨hp, b, o', es, h1, h2, h3⟩ := hv.one rfl rfl
            simp only [List.cons.injEq, and_true] at h1
            obtain ⟨g1, g2, g3, g4⟩ := vptr_field (t := t) (x := z) _ t _ _ z v es hfd hg hp h2
            refine Done.same (v := .pointer (some ⟨b, o' + fd.offset, none⟩)) R hn ?_ h (AvV.mk rfl rfl ⟨g2, b, o' + fd.offset, _, rfl, g3, fun j v hv => ?_⟩ (fun c => by simp)) (by simp [AV.ids])
            · simp only [execOp, ho, h1, Sem.run_bind, field_run hu hf hinf (by rw [his]; exact hw0), Result.andThen_ok, Sem.run_pure]
            · rw [Nat.add_assoc]; exact h3 _ v (getElem?_seg hv)
          · simp at h
        · simp at h
      · simp at h
    · simp at h
  · simp at h

theorem extract_ok {y : Operand} {i : Nat} (R : Inv S n w I σ st.heap own loose) (T : TRel n w I σ st a) (hn : n ≤ n') (ho : o.op = .extract y i) (h : evOp P C o.op o.type st n k = some r) :
    Done P S n n' w I σ st.heap k r (execOp a.eval o) := by
  obtain ⟨hv, hi⟩ := eval_ok T y
  rw [ho] at h
  simp only [evOp, Option.bind_eq_some_iff] at h
  obtain ⟨v, h1, h⟩ := h
  have key : ∀ (av : AV) (i : Nat) (v : AV) (l : List Value), av.ext i = some v → (AvR w I σ st.heap av).2 l → ∃ u, l[i]? = some u ∧ AvV w I σ st.heap v u ∧ ∀ id ∈ v.ids, id ∈ av.ids := by
    intro av
    induction av with
    | tup p q ihp ihq =>
      intro i v l he hl
      obtain ⟨u, l', rfl, h1, h2⟩ := hl
      cases i with
      | zero => simp only [AV.ext, Option.some.injEq] at he; subst he; exact ⟨u, rfl, h1, fun id h => by simp [AV.ids, h]⟩
      | succ i => obtain ⟨u, g1, g2, g3⟩ := ihq i v l' he h2; exact ⟨u, g1, g2, fun id h => by simp [AV.ids, g3 id h]⟩
    | _ => intro i v l he _; simp [AV.ext] at he
  have hT : isT (st.eval y) = true := by cases hs : st.eval y <;> rw [hs] at h1 <;> first | rfl | (simp [AV.ext] at h1)
  obtain ⟨l, e1, e2⟩ := hv.1 hT
  obtain ⟨u, g1, g2, g3⟩ := key _ _ _ _ h1 e2
  refine Done.same R hn ?_ h g2 (fun id h => hi id (g3 id h))
  simp [execOp, ho, e1, Instr.extract, g1]
end
end Go.Ev

namespace Go.Ev

section
variable {S : Start} {n n' : Nat} {w : World} {I : Imm} {σ : Nat → Value} {H : Heap} {own : Own} {loose : List Nat}

theorem avc_len : ∀ {av : AV} {m : Nat} {cs : List Value}, av.width = some m → AvC w I σ H av cs → cs.length = m ∧ ∀ c ∈ cs, c.oneCell' = true := by
  intro av
  induction av with
  | dat t x => intro m cs hm hc; simp only [AV.width, Option.some.injEq] at hm; subst hm; exact ⟨hc.2.len, hc.2.one⟩
  | one v ih => intro m cs hm hc; exact ih hm hc
  | pair a b iha ihb =>
    intro m cs hm hc
    simp only [AV.width, Option.bind_eq_some_iff, Option.map_eq_some_iff] at hm
    obtain ⟨ma, h1, mb, h2, rfl⟩ := hm
    obtain ⟨c1, c2, rfl, h3, h4⟩ := hc
    obtain ⟨a1, a2⟩ := iha h1 h3
    obtain ⟨b1, b2⟩ := ihb h2 h4
    exact ⟨by simp [a1, b1], fun c hc => by rcases List.mem_append.1 hc with e | e; exact a2 c e; exact b2 c e⟩
  | lb b => intro m cs hm hc; simp only [AV.width, Option.some.injEq] at hm; have hc : cs = [.bool b] := hc; subst hc hm; simp [Value.oneCell']
  | ptr => intro m cs hm hc; simp only [AV.width, Option.some.injEq] at hm; obtain ⟨_, _, _, rfl, _⟩ := hc; subst hm; simp [Value.oneCell']
  | vptr => intro m cs hm hc; simp only [AV.width, Option.some.injEq] at hm; obtain ⟨_, _, _, _, rfl, _⟩ := hc; subst hm; simp [Value.oneCell']
  | slw => intro m cs hm hc; simp only [AV.width, Option.some.injEq] at hm; obtain ⟨_, _, _, _, rfl, _⟩ := hc; subst hm; simp [Value.oneCell']
  | sub => intro m cs hm hc; simp only [AV.width, Option.some.injEq] at hm; obtain ⟨_, _, _, _, _, _, _, rfl, _⟩ := hc; subst hm; simp [Value.oneCell']
  | mp => intro m cs hm hc; simp only [AV.width, Option.some.injEq] at hm; obtain ⟨_, _, rfl, _⟩ := hc; subst hm; simp [Value.oneCell']
  | nil => intro m cs hm hc; simp only [AV.width, Option.some.injEq] at hm; have hc : cs = [.pointer none] := hc; subst hc hm; simp [Value.oneCell']
  | nsl => intro m cs hm hc; simp only [AV.width, Option.some.injEq] at hm; have hc : cs = [.slice none 0 0] := hc; subst hc hm; simp [Value.oneCell']
  | clo => intro m cs hm hc; simp only [AV.width, Option.some.injEq] at hm; obtain ⟨_, rfl, _⟩ := hc; subst hm; simp [Value.oneCell']
  | _ => intro m cs hm hc; simp [AV.width] at hm

theorem cut_l {α : Type} {l1 l2 : List α} {k m : Nat} (h : k + m ≤ l1.length) : ((l1 ++ l2).drop k).take m = (l1.drop k).take m := by
  rw [List.drop_append_of_le_length (by omega), List.take_append_of_le_length (by simp; omega)]
theorem cut_r {α : Type} {l1 l2 : List α} {k m j : Nat} (h : l1.length = j) : ((l1 ++ l2).drop (j + k)).take m = (l2.drop k).take m := by
  subst h; rw [List.drop_length_add_append]

theorem projAt_ok : ∀ (p : Path) (av : AV) (off m : Nat) (v : AV) (cs : List Value), av.projAt p = some (off, v) → v.width = some m → AvC w I σ H av cs →
    AvC w I σ H v ((cs.drop off).take m) ∧ off + m ≤ cs.length ∧ ∀ id ∈ v.ids, id ∈ av.ids := by
  intro p
  induction p with
  | nil =>
    intro av off m v cs h hm hc
    simp only [AV.projAt, Option.some.injEq, Prod.mk.injEq] at h
    obtain ⟨rfl, rfl⟩ := h
    have := (avc_len hm hc).1
    refine ⟨?_, by omega, fun _ h => h⟩
    rw [List.drop_zero, List.take_of_length_le (by omega)]
    exact hc
  | cons s p ih =>
    intro av off m v cs h hm hc
    cases s <;> unfold AV.projAt at h <;> simp only [reduceCtorEq] at h
    · cases av <;> try simp only [reduceCtorEq] at h
      case dat t x =>
        cases t <;> try simp only [reduceCtorEq] at h
        obtain ⟨hp, c1, c2, o1, o2, rfl, ho, h1, h2⟩ := hc
        simp only [Ty.pure, Bool.and_eq_true] at hp
        have := List.append_eq_nil_iff.1 ho.symm
        rw [this.1] at h1
        obtain ⟨g1, g2, g3⟩ := ih _ _ _ _ _ h hm ⟨hp.1, h1⟩
        exact ⟨by rw [cut_l g2]; exact g1, by simp; omega, g3⟩
      case pair a b =>
        obtain ⟨c1, c2, rfl, h1, h2⟩ := hc
        obtain ⟨g1, g2, g3⟩ := ih _ _ _ _ _ h hm h1
        exact ⟨by rw [cut_l g2]; exact g1, by simp; omega, fun id h => by simp [AV.ids, g3 id h]⟩
    · cases av <;> try simp only [reduceCtorEq] at h
      case dat t x =>
        cases t <;> try simp only [reduceCtorEq] at h
        obtain ⟨hp, c1, c2, o1, o2, rfl, ho, h1, h2⟩ := hc
        simp only [Ty.pure, Bool.and_eq_true] at hp
        have := List.append_eq_nil_iff.1 ho.symm
        rw [this.2] at h2
        simp only [Option.map_eq_some_iff, Prod.mk.injEq] at h
        obtain ⟨⟨k', v'⟩, h, rfl, rfl⟩ := h
        obtain ⟨g1, g2, g3⟩ := ih _ _ _ _ _ h hm ⟨hp.2, h2⟩
        exact ⟨by rw [cut_r h1.len]; exact g1, by simp [h1.len]; omega, g3⟩
      case pair a b =>
        obtain ⟨c1, c2, rfl, h1, h2⟩ := hc
        simp only [Option.bind_eq_some_iff, Option.map_eq_some_iff, Prod.mk.injEq] at h
        obtain ⟨na, hna, ⟨k', v'⟩, h, rfl, rfl⟩ := h
        obtain ⟨g1, g2, g3⟩ := ih _ _ _ _ _ h hm h2
        have := (avc_len hna h1).1
        exact ⟨by rw [cut_r this]; exact g1, by simp [this]; omega, fun id h => by simp [AV.ids, g3 id h]⟩
    · cases av <;> try simp only [reduceCtorEq] at h
      case dat t x =>
        cases t <;> try simp only [reduceCtorEq] at h
        rename_i t1
        exact ih (.dat t1 x) _ _ _ cs h hm ⟨hc.1, hc.2⟩
      case one a => exact ih a _ _ _ cs h hm hc

variable {RR : Type} {P : Program} {k : AV → Heap → Option RR} {r : RR} {x : Sem Next}
variable {C : Handler} {o : Oper} {st : St} {a : Act}

/-- A part that is read. -/
theorem run_part {T : TypeId} {g : Bool} {m off : Nat} {cs : Array Value} (hg : isAggT P T = some g) (hs : szOk P T m = true) (hm : off + m ≤ cs.size) (h1 : g = false → m = 1) :
    ∃ v, (part T cs off).run P w = .ok v w ∧ (g = true → v = .agg (((cs.toList.drop off).take m).toArray)) ∧ (g = false → (cs.toList.drop off).take m = [v]) := by
  cases g with
  | true =>
    refine ⟨_, ?_, fun _ => rfl, fun e => by simp at e⟩
    simp only [part, Sem.run_bind, run_agg hg, Result.andThen_ok, if_true, run_szOk hs, Sem.run_pure]
    congr 2
    apply Array.toList_inj.1
    simp [List.drop_take]
  | false =>
    have := h1 rfl
    subst this
    refine ⟨cs[off], ?_, fun e => by simp at e, fun _ => ?_⟩
    · simp only [part, Sem.run_bind, run_agg hg, Result.andThen_ok, Bool.false_eq_true, if_false]
      rw [Array.getElem?_eq_getElem (by omega)]
      rfl
    · rw [List.drop_eq_getElem_cons (by simp; omega)]
      simp

theorem agg_width {av : AV} {m : Nat} {cs : List Value} (hg : av.agg = some false) (hm : av.width = some m) (hc : AvC w I σ H av cs) : m = 1 := by
  cases av <;> simp only [AV.agg, AV.width, Option.some.injEq, reduceCtorEq] at hg hm <;> try exact hm.symm
  case dat t x =>
    subst hm
    cases t <;> simp [Ty.isAgg] at hg <;> try rfl
    case hole j => exact absurd hc.1 (by simp [Ty.pure])

theorem avv_part {v : AV} {m : Nat} {u : Value} {g : Bool} {seg : List Value} (hw : v.width = some m) (hg : v.agg = some g) (hc : AvC w I σ H v seg) (h1 : g = true → u = .agg seg.toArray) (h2 : g = false → seg = [u]) : AvV w I σ H v u := by
  have hT : isT v = false := by cases v <;> first | rfl | (simp [AV.width] at hw)
  have hone := (avc_len hw hc).2
  refine valRel_of hT ?_ (fun e => ?_) (fun e c hcc => ?_)
  · cases g with
    | true => rw [h1 rfl]; exact hc
    | false =>
      have := h2 rfl
      rw [cells_one, ← this]
      · exact hc
      · intro c hcc
        have := hone u (by rw [this]; simp)
        rw [hcc] at this
        simp [Value.oneCell'] at this
  · rw [hg] at e
    injection e with e
    exact ⟨_, h1 e⟩
  · rw [hg] at e
    injection e with e
    have := hone u (by rw [h2 e]; simp)
    rw [hcc] at this
    simp [Value.oneCell'] at this

theorem AvV.agg_inv {av : AV} {v : Value} (h : AvV w I σ H av v) (hT : isT av = false) (ha : av.agg = some true) : ∃ c, v = .agg c ∧ AvC w I σ H av c.toList := by
  obtain ⟨h1, h2, _⟩ := h.2 hT
  obtain ⟨c, rfl⟩ := h2 ha
  exact ⟨c, rfl, h1⟩

theorem field_agg {av : AV} {p : Path} {r : Nat × AV} (hp : p ≠ []) (h : av.projAt p = some r) : isT av = false ∧ av.agg = some true := by
  cases p with
  | nil => exact absurd rfl hp
  | cons s p =>
    unfold AV.projAt at h
    cases s <;> cases av <;> simp only [reduceCtorEq] at h <;> first | exact ⟨rfl, rfl⟩ | (rename_i t x; cases t <;> simp only [reduceCtorEq] at h <;> exact ⟨rfl, rfl⟩)

theorem fieldPath_ne : ∀ (n j : Nat), 0 < n → fieldPath n j ≠ []
  | 1, _, _ => by simp [fieldPath]
  | 2, 0, _ => by simp [fieldPath]
  | 2, _ + 1, _ => by simp [fieldPath]
  | n + 3, 0, _ => by simp [fieldPath]
  | n + 3, j + 1, _ => by simp [fieldPath]

theorem field_done {s : TypeId} {y : Operand} {f : Nat} (R : Inv S n w I σ st.heap own loose) (T : TRel n w I σ st a) (hn : n ≤ n') (ho : o.op = .field s y f) (h : evOp P C o.op o.type st n k = some r) :
    Done P S n n' w I σ st.heap k r (execOp a.eval o) := by
  obtain ⟨hv, hi⟩ := eval_ok T y
  rw [ho] at h
  simp only [evOp] at h
  split at h
  · rename_i fs hu
    split at h
    · rename_i fd hf
      simp only [Option.bind_eq_some_iff] at h
      obtain ⟨⟨off, v⟩, h1, h⟩ := h
      simp only at h
      split at h
      · rename_i m g hm hg
        split at h
        · rename_i hc
          simp only [Bool.and_eq_true, beq_iff_eq] at hc
          obtain ⟨⟨rfl, hsz⟩, hag⟩ := hc
          have hlt : 0 < fs.size := by
            cases hz : fs.size with
            | zero => rw [Array.getElem?_eq_none (by omega)] at hf; simp at hf
            | succ j => omega
          obtain ⟨q1, q2⟩ := field_agg (fieldPath_ne _ _ hlt) h1
          obtain ⟨c, hce, hcc⟩ := hv.agg_inv q1 q2
          obtain ⟨g1, g2, g3⟩ := projAt_ok _ _ _ _ _ _ h1 hm hcc
          obtain ⟨u, e1, e2, e3⟩ := run_part (P := P) (w := w) hag hsz (by simpa using g2) (fun e => by subst e; exact agg_width hg hm g1)
          refine Done.same R hn ?_ h (avv_part hm hg g1 e2 e3) (fun id h => hi id (g3 id h))
          simp only [execOp, ho, hce, Instr.field, Sem.run_bind, run_und hu, Result.andThen_ok, hf, asAgg, Sem.run_pure, e1]
        · simp at h
      · simp at h
    · simp at h
  · simp at h
end
end Go.Ev

namespace Go.Ev

section
variable {S : Start} {n n' : Nat} {w : World} {I : Imm} {σ : Nat → Value} {H : Heap} {own : Own} {loose : List Nat}

/-- One element of several. -/
theorem elem_ok {t : Ty} {css : List (List Value)} {xs : List t.den} {ows : List (List Nat)} (hp : t.pure = true) (h : All3 (TRep w I σ t) css xs ows) {i : Nat} (hi : i < xs.length) :
    TRep w I σ t ((css.flatten.drop (i * t.width)).take t.width) (xs.getD i default) [] ∧ i * t.width + t.width ≤ css.flatten.length := by
  obtain ⟨a1, a, a2, b1, b, b2, c1, c, c2, rfl, rfl, rfl, h1, h2, h3, h4, h5, h6⟩ := h.split hi
  have hl : ∀ c ∈ a1, c.length = t.width := fun c hc => by obtain ⟨_, _, hh⟩ := All3.mem_l h4 c hc; exact hh.len
  have hf : a1.flatten.length = i * t.width := by rw [flat_len hl, h1]
  have ha := h5.len
  have hc := h5.pure_ow hp
  subst hc
  refine ⟨?_, by simp only [List.flatten_append, List.flatten_cons, List.length_append]; omega⟩
  rw [List.flatten_append, List.flatten_cons, ← hf, List.drop_left, List.take_left' ha]
  rw [show (b1 ++ b :: b2).getD i default = b from by rw [List.getD_eq_getElem?_getD, List.getElem?_append_right (by omega), h2, Nat.sub_self]; rfl]
  exact h5

theorem elem_ptr {id : Nat} {ob : Obj} {p : Path} {s : Bool} {u : Ty} {l : List u.den} {sp : Spot} {b : Nat} {es : Array Value} {m c : Nat} (hg : ob.t.get ob.x p = some ⟨.vec s u, l⟩) (hi : Inb ob.t ob.x p)
    (hs : spot w ob.t [σ id] false none 0 p = some sp) (hc : sp.cells = [.slice (some ⟨b, 0, none⟩) m c]) (hb : Blk w b es) {j : Int} (h0 : 0 ≤ j) (h1 : j < (l.length : Int)) :
    PtrC w σ id ob (p ++ [.at j]) b (j.toNat * u.width) := by
  intro u' hu'
  refine ⟨(inb_append p _ _ _ _ hg).2 ⟨hi, ⟨h0, h1⟩, inb_nil _ _⟩, ?_⟩
  obtain ⟨eid, hb⟩ := hb
  rw [spot_append w p _ _ _ _ _ _ _ _ hg, hs]
  simp only [Option.bind_some, spot, hc, hdrBlk, hb, spot_nil]
  exact ⟨_, rfl, rfl, rfl⟩

theorem run_indexSlice {P : Program} {t e : TypeId} {k : IntKind} {j : Int} {b o m c sz : Nat} (hu : P.underlying t = some (.slice e)) (hs : szOk P e sz = true) (h0 : 0 ≤ j) (h1 : j < (m : Int)) :
    (Instr.indexAt t (.slice (some ⟨b, o, none⟩) m c) (.int k j)).run P w = .ok (.pointer (some ⟨b, o + j.toNat * sz, none⟩)) w := by
  simp only [Instr.indexAt, asIntOf, Sem.run_bind, Sem.run_pure, Result.andThen_ok, run_und hu, if_pos (And.intro h0 h1), run_szOk hs, addr_add]

theorem run_indexArr {P : Program} {t e : TypeId} {k : IntKind} {j : Int} {b o m sz : Nat} (hu : P.underlying t = some (.array m e)) (hs : szOk P e sz = true) (h0 : 0 ≤ j) (h1 : j < (m : Int)) :
    (Instr.indexAt t (.pointer (some ⟨b, o, none⟩)) (.int k j)).run P w = .ok (.pointer (some ⟨b, o + j.toNat * sz, none⟩)) w := by
  simp only [Instr.indexAt, asIntOf, Sem.run_bind, Sem.run_pure, Result.andThen_ok, run_und hu, Instr.sureAddr, if_pos (And.intro h0 h1), run_szOk hs, addr_add]

variable {RR : Type} {P : Program} {k : AV → Heap → Option RR} {r : RR} {x : Sem Next}
variable {C : Handler} {o : Oper} {st : St} {a : Act}

theorem hdr_of {id : Nat} {p : Path} {ver : Nat} {ob : Obj} {v : TV} (h : H.at true id p ver = some (ob, v)) {hv : Value} {kk : Nat} (hc : ∀ ob, H id = some ob → ver ≤ ob.ev.length ∧ (ob.ok true p ver = true → HdrC w σ id ob p hv kk)) :
    H id = some ob ∧ ob.t.get ob.x p = some v ∧ ver ≤ ob.ev.length ∧ HdrC w σ id ob p hv kk := by
  obtain ⟨g1, g2, g3⟩ := heap_at h
  exact ⟨g1, g3, (hc ob g1).1, (hc ob g1).2 g2⟩

theorem indexAddr_ok {t : TypeId} {y z : Operand} (R : Inv S n w I σ st.heap own loose) (T : TRel n w I σ st a) (hn : n ≤ n') (ho : o.op = .indexAddr t y z) (h : evOp P C o.op o.type st n k = some r) :
    Done P S n n' w I σ st.heap k r (execOp a.eval o) := by
  obtain ⟨hv, hi⟩ := eval_ok T y
  obtain ⟨hv2, hi2⟩ := eval_ok T z
  rw [ho] at h
  simp only [evOp] at h
  split at h
  · -- a slice
    rename_i e ki j hu he
    rw [he] at hv2
    obtain ⟨hz, _⟩ := hv2.int_inv
    split at h
    · rename_i id p ver he'
      simp only [Option.bind_eq_some_iff] at h
      obtain ⟨⟨ob, v⟩, h1, h⟩ := h
      simp only at h
      split at h
      · rename_i s u l
        split at h
        · rename_i hsz
          obtain ⟨j0, h⟩ := grd_some h
          obtain ⟨j1, h⟩ := grd_some h
          rw [iLe_eq] at j0
          rw [iLt_eq, ln_eq] at j1
          rw [he'] at hv hi
          obtain ⟨sa, m, c, kk, e1, e2⟩ := hv.one rfl rfl
          simp only [List.cons.injEq, and_true] at e1
          obtain ⟨g1, g2, g3, g4⟩ := hdr_of h1 e2
          obtain ⟨q1, q2, sp, ou, pre, post, lh, F, hcs⟩ := hdr_focus R g1 g2 rfl g4
          have hrep := F.rep
          rw [hcs] at hrep
          obtain ⟨a', cap, e3, e4, e5, e6⟩ := hrep
          simp only [List.cons.injEq, Value.slice.injEq, and_true] at e3
          obtain ⟨rfl, rfl, rfl⟩ := e3
          rcases e6 with ⟨_, hnil, _⟩ | ⟨b, es, css, ows, rfl, hblk, _⟩
          · subst hnil; simp at j1; omega
          refine Done.same (v := .pointer (some ⟨b, 0 + j.toNat * u.width, none⟩)) R hn ?_ h (AvV.mk rfl rfl ⟨b, 0 + j.toNat * u.width, j.toNat * u.width, rfl, by omega, fun ob2 hob2 => ?_⟩ (fun c => by simp)) (by simpa [AV.ids] using hi)
          · simp only [execOp, ho, e1, hz, Sem.run_bind, run_indexSlice hu hsz j0 j1, Result.andThen_ok, Sem.run_pure]
          · rw [g1] at hob2
            injection hob2 with hob2
            subst hob2
            exact ⟨g3, fun _ => elem_ptr g2 q2 F.spot hcs hblk j0 j1⟩
        · simp at h
      · simp at h
    · rename_i id p ver off len he'
      simp only [Option.bind_eq_some_iff] at h
      obtain ⟨⟨ob, v⟩, h1, h⟩ := h
      simp only at h
      split at h
      · rename_i s u l
        split at h
        · rename_i hsz
          obtain ⟨j0, h⟩ := grd_some h
          obtain ⟨j1, h⟩ := grd_some h
          rw [iLe_eq] at j0
          rw [iLt_eq] at j1
          rw [he'] at hv hi
          obtain ⟨sa, m, c, ha, hl, hcap, kk, e1, f1, f2, f3, f4, f5, f6, e2⟩ := hv.one rfl rfl
          simp only [List.cons.injEq, and_true] at e1
          obtain ⟨g1, g2, g3, g4⟩ := hdr_of h1 e2
          obtain ⟨q1, q2, sp, ou, pre, post, lh, F, hcs⟩ := hdr_focus R g1 g2 rfl g4
          have hrep := F.rep
          rw [hcs] at hrep
          obtain ⟨a', cap, e3, e4, e5, e6⟩ := hrep
          simp only [List.cons.injEq, Value.slice.injEq, and_true] at e3
          obtain ⟨rfl, rfl, rfl⟩ := e3
          rcases e6 with ⟨_, hnil, _⟩ | ⟨b, es, css, ows, rfl, hblk, _⟩
          · subst hnil; simp at f5; omega
          have hsa := f6 (by omega)
          simp only [Option.map_some, addr_add, Nat.zero_add] at hsa
          subst hsa
          have hkk : kk = u.width := q1.symm
          subst hkk
          refine Done.same (v := .pointer (some ⟨b, off.toNat * u.width + j.toNat * u.width, none⟩)) R hn ?_ h (AvV.mk rfl rfl ⟨b, off.toNat * u.width + j.toNat * u.width, (iadd off j).toNat * u.width, rfl, ?_, fun ob2 hob2 => ?_⟩ (fun c => by simp)) (by simpa [AV.ids] using hi)
          · simp only [execOp, ho, e1, hz, Sem.run_bind, run_indexSlice hu hsz j0 (f1.symm ▸ j1), Result.andThen_ok, Sem.run_pure]
          · rw [iadd_eq, Nat.add_zero, ← Nat.add_mul]
            congr 1
            omega
          · rw [g1] at hob2
            injection hob2 with hob2
            subst hob2
            exact ⟨g3, fun _ => elem_ptr g2 q2 F.spot hcs hblk (by rw [iadd_eq]; omega) (by rw [iadd_eq]; omega)⟩
        · simp at h
      · simp at h
    · rename_i u l he'
      split at h
      · rename_i hsz
        obtain ⟨j0, h⟩ := grd_some h
        obtain ⟨j1, h⟩ := grd_some h
        rw [iLe_eq] at j0
        rw [iLt_eq, ln_eq] at j1
        rw [he'] at hv
        obtain ⟨_, _, hp, sa, cap, css, ows, e1, e2, e3, e4, e5⟩ := hv.one rfl rfl
        simp only [List.cons.injEq, and_true] at e1
        obtain ⟨b, o', rfl, hI⟩ := e5 (by intro e; rw [e] at j1; simp at j1; omega)
        obtain ⟨k1, k2⟩ := elem_ok hp e4 (i := j.toNat) (by omega)
        refine Done.same (v := .pointer (some ⟨b, o' + j.toNat * u.width, none⟩)) R hn ?_ h (AvV.mk rfl rfl ⟨hp, b, o' + j.toNat * u.width, _, rfl, by rw [rd_eq]; exact k1, fun i v hv => ?_⟩ (fun c => by simp)) (by simp [AV.ids])
        · simp only [execOp, ho, e1, hz, Sem.run_bind, run_indexSlice hu hsz j0 j1, Result.andThen_ok, Sem.run_pure]
        · rw [Nat.add_assoc]; exact hI _ v (getElem?_seg hv)
      · simp at h
    · simp at h
  · -- an array
    rename_i mm e ki j hu he
    rw [he] at hv2
    obtain ⟨hz, _⟩ := hv2.int_inv
    split at h
    · rename_i id p q off ver he'
      simp only [Option.bind_eq_some_iff] at h
      obtain ⟨pl, hpl, h⟩ := h
      have hpid : pl.id = id := by
        simp only [Heap.place, Option.bind_eq_some_iff] at hpl
        obtain ⟨⟨ob, u⟩, _, h2⟩ := hpl
        simp only at h2
        split at h2
        · split at h2
          · simp only [Option.map_eq_some_iff] at h2; obtain ⟨_, _, rfl⟩ := h2; rfl
          · simp at h2
        · simp at h2
      rw [he'] at hv hi
      obtain ⟨p1, p2, p3, p4, b, o', sp, ou, pre, post, lh, e1, F, hb, hoff⟩ := place_ok R hpl (hv.one rfl rfl)
      simp only [List.cons.injEq, and_true] at e1
      split at h
      · rename_i m' u hpt
        split at h
        · rename_i hc
          simp only [Bool.and_eq_true, beq_iff_eq, bne_iff_ne] at hc
          obtain ⟨⟨rfl, hsz⟩, hw0⟩ := hc
          obtain ⟨j0, h⟩ := grd_some h
          obtain ⟨j1, h⟩ := grd_some h
          rw [iLe_eq] at j0
          rw [iLt_eq] at j1
          refine Done.same (v := .pointer (some ⟨b, o' + j.toNat * u.width, none⟩)) R hn ?_ h (AvV.mk rfl rfl ⟨b, o' + j.toNat * u.width, o' + j.toNat * u.width, rfl, by omega, fun ob2 hob2 => ?_⟩ (fun c => by simp)) (by simpa [AV.ids] using hi)
          · simp only [execOp, ho, e1, hz, Sem.run_bind, run_indexArr hu hsz j0 j1, Result.andThen_ok, Sem.run_pure]
          · rw [← hpid, p1] at hob2
            injection hob2 with hob2
            subst hob2
            refine ⟨Nat.le_refl _, fun _ u' hu' => ?_⟩
            obtain ⟨pt, px⟩ : (v : TV) ×' (pl.v = v) := ⟨pl.v, rfl⟩
            obtain ⟨vt, vx⟩ := pt
            rw [px] at p2 hpt
            simp only at hpt
            subst hpt
            refine ⟨(inb_append pl.p _ _ _ _ p2).2 ⟨p3, ⟨j0, j1⟩, inb_nil _ _⟩, ?_⟩
            have hsp := F.spot
            rw [← hpid]
            rw [spot_append w pl.p _ _ _ _ _ _ _ _ p2, hsp]
            simp only [Option.bind_some, spot, spot_nil]
            exact ⟨_, rfl, hb, by simp only [hoff]⟩
        · simp at h
      · simp at h
    · rename_i m' u l he'
      split at h
      · rename_i hc
        simp only [Bool.and_eq_true, beq_iff_eq, bne_iff_ne] at hc
        obtain ⟨⟨rfl, hsz⟩, hw0⟩ := hc
        obtain ⟨j0, h⟩ := grd_some h
        obtain ⟨j1, h⟩ := grd_some h
        rw [iLe_eq] at j0
        rw [iLt_eq] at j1
        rw [he'] at hv
        obtain ⟨hp, b, o', es, e1, ⟨css, ows, rfl, _, hlen, hall⟩, hI⟩ := hv.one rfl rfl
        simp only [List.cons.injEq, and_true] at e1
        have hp' : u.pure = true := hp
        obtain ⟨k1, k2⟩ := elem_ok hp' hall (i := j.toNat) (by omega)
        refine Done.same (v := .pointer (some ⟨b, o' + j.toNat * u.width, none⟩)) R hn ?_ h (AvV.mk rfl rfl ⟨hp', b, o' + j.toNat * u.width, _, rfl, by rw [rd_eq]; exact k1, fun i v hv => ?_⟩ (fun c => by simp)) (by simp [AV.ids])
        · simp only [execOp, ho, e1, hz, Sem.run_bind, run_indexArr hu hsz j0 j1, Result.andThen_ok, Sem.run_pure]
        · rw [Nat.add_assoc]; exact hI _ v (getElem?_seg hv)
      · simp at h
    · simp at h
  · simp at h
end
end Go.Ev

namespace Go.Ev

section
variable {S : Start} {n n' : Nat} {w : World} {I : Imm} {σ : Nat → Value} {H : Heap} {own : Own} {loose : List Nat}
variable {RR : Type} {P : Program} {k : AV → Heap → Option RR} {r : RR} {x : Sem Next}
variable {C : Handler} {o : Oper} {st : St} {a : Act}

/-! ### Texts -/
theorem bytesOf_len (s : ByteArray) : (bytesOf s).length = s.size := by
  obtain ⟨⟨l⟩⟩ := s
  simp [bytesOf, ByteArray.size]

theorem bytesOf_get {s : ByteArray} {i : Nat} (h : i < s.size) : (bytesOf s).getD i default = (s[i].toNat : Int) := by
  obtain ⟨⟨l⟩⟩ := s
  simp only [bytesOf, ByteArray.size, List.size_toArray] at h ⊢
  rw [List.getD_eq_getElem?_getD, List.getElem?_map, List.getElem?_eq_getElem h]
  rfl

theorem bytesOf_inj {s t : ByteArray} (h : bytesOf s = bytesOf t) : s = t := by
  obtain ⟨⟨l⟩⟩ := s
  obtain ⟨⟨m⟩⟩ := t
  simp only [bytesOf] at h
  congr 2
  induction l generalizing m with
  | nil => cases m <;> simp_all
  | cons a l ih =>
    cases m with
    | nil => simp at h
    | cons b m =>
      simp only [List.map_cons, List.cons.injEq] at h
      rw [ih m h.2]
      congr 1
      have := h.1
      have h2 : a.toNat = b.toNat := by omega
      exact UInt8.toNat_inj.1 h2

theorem bytesOf_append (s t : ByteArray) : bytesOf (s ++ t) = bytesOf s ++ bytesOf t := by
  simp [bytesOf, ByteArray.data_append]

theorem bytes_beq (s t : ByteArray) : (s.toList == t.toList) = decide (bytesOf s = bytesOf t) := by
  by_cases h : s = t
  · subst h; simp
  · have h1 : bytesOf s ≠ bytesOf t := fun e => h (bytesOf_inj e)
    rw [decide_eq_false h1, beq_eq_false_iff_ne]
    intro e
    rw [ByteArray.toList_eq, ByteArray.toList_eq] at e
    exact h1 (by rw [bytesOf, bytesOf, e])

theorem ltB_bytes : ∀ (x y : List UInt8), Op.bytesLess x y = ltB (x.map fun b => (b.toNat : Int)) (y.map fun b => (b.toNat : Int))
  | [], [] => rfl
  | [], _ :: _ => rfl
  | _ :: _, [] => rfl
  | a :: x, b :: y => by
    simp only [Op.bytesLess, ltB, List.map_cons]
    rw [ltB_bytes x y]
    have h1 : decide (a < b) = decide ((a.toNat : Int) < b.toNat) := by
      rw [decide_eq_decide, UInt8.lt_iff_toNat_lt]; omega
    have h2 : (a == b) = decide ((a.toNat : Int) = b.toNat) := by
      by_cases e : a = b
      · subst e; simp
      · have : ¬ ((a.toNat : Int) = b.toNat) := fun e' => e (UInt8.toNat_inj.1 (by omega))
        rw [decide_eq_false this]; simpa using e
    rw [h1, h2]

theorem bytesLess_ok (s t : ByteArray) : Op.bytesLess s.toList t.toList = ltL (bytesOf s) (bytesOf t) := by
  rw [ltL_eq, ltB_bytes, ByteArray.toList_eq, ByteArray.toList_eq]; rfl

theorem bytesOf_extract (s : ByteArray) (i j : Nat) : bytesOf (s.extract i j) = ((bytesOf s).take j).drop i := by
  obtain ⟨⟨l⟩⟩ := s
  simp only [bytesOf, ByteArray.data_extract, List.extract_toArray, ← List.map_take, ← List.map_drop]
  simp [List.extract_eq_take_drop, List.drop_take]

theorem u8_in (b : UInt8) : IntKind.u8.min ≤ (b.toNat : Int) ∧ (b.toNat : Int) ≤ IntKind.u8.max := by
  have := b.toNat_lt
  simp [IntKind.min, IntKind.max, IntKind.signed, IntKind.bits]
  omega

theorem index_ok {t : TypeId} {y z : Operand} (R : Inv S n w I σ st.heap own loose) (T : TRel n w I σ st a) (hn : n ≤ n') (ho : o.op = .index t y z) (h : evOp P C o.op o.type st n k = some r) :
    Done P S n n' w I σ st.heap k r (execOp a.eval o) := by
  obtain ⟨hv, hi⟩ := eval_ok T y
  obtain ⟨hv2, hi2⟩ := eval_ok T z
  rw [ho] at h
  simp only [evOp] at h
  split at h
  · rename_i s ki j hu he he2
    obtain ⟨j0, h⟩ := grd_some h
    obtain ⟨j1, h⟩ := grd_some h
    rw [iLe_eq] at j0
    rw [iLt_eq, ln_eq] at j1
    rw [he] at hv
    rw [he2] at hv2
    obtain ⟨hz, _⟩ := hv2.int_inv
    obtain ⟨bs, hy, rfl, hmax⟩ := hv.str_inv
    rw [bytesOf_len] at j1
    have hlt : j.toNat < bs.size := by omega
    rw [rd_eq, bytesOf_get hlt] at h
    refine Done.same R hn ?_ h (avv_int (u8_in _).1 (u8_in _).2) (by simp [AV.ids])
    simp only [execOp, ho, hy, hz, Instr.index, asIntOf, Sem.run_bind, Sem.run_pure, Result.andThen_ok, run_und hu, if_pos j0, ByteArray.getElem?_lt' bs _ hlt]
  · rename_i m e m' u l ki j hu he he2
    split at h
    · rename_i hc
      simp only [Bool.and_eq_true, beq_iff_eq] at hc
      obtain ⟨⟨rfl, hsz⟩, hag⟩ := hc
      obtain ⟨j0, h⟩ := grd_some h
      obtain ⟨j1, h⟩ := grd_some h
      rw [iLe_eq] at j0
      rw [iLt_eq] at j1
      rw [he] at hv
      rw [he2] at hv2
      obtain ⟨hz, _⟩ := hv2.int_inv
      obtain ⟨c, hy, hp, css, ows, hcs, _, hlen, hall⟩ := hv.agg_inv rfl rfl
      have hp' : u.pure = true := hp
      obtain ⟨k1, k2⟩ := elem_ok hp' hall (i := j.toNat) (by omega)
      rw [← hcs] at k1 k2
      rw [rd_eq] at h
      obtain ⟨v, e1, e2, e3⟩ := run_part (P := P) (w := w) hag hsz (cs := c) (off := j.toNat * u.width) (by simpa using k2) (fun e => width_one e (by cases u <;> first | rfl | (simp [Ty.pure] at hp')))
      refine Done.same R hn ?_ h (avv_part (m := u.width) (g := u.isAgg) rfl rfl ⟨hp', k1⟩ e2 e3) (by simp [AV.ids])
      have hj1 : j < (m : Int) := j1
      simp only [execOp, ho, hy, hz, Instr.index, asIntOf, Sem.run_bind, Sem.run_pure, Result.andThen_ok, run_und hu, if_pos (And.intro j0 hj1), run_szOk hsz, e1]
    · simp at h
  · simp at h
end
end Go.Ev

namespace Go.Ev

section
variable {S : Start} {n n' : Nat} {w : World} {I : Imm} {σ : Nat → Value} {H : Heap} {own : Own} {loose : List Nat}
variable {RR : Type} {P : Program} {k : AV → Option RR} {r : RR} {x : Sem Next}
variable {C : Handler} {o : Oper} {st : St} {a : Act}

theorem avv_unlb {av : AV} {v : Value} (h : AvV w I σ H av v) : AvV w I σ H av.unlb v := by
  cases av <;> try exact h
  rw [h.lb_inv]
  exact avv_bool

/-- What an operation on two values gives. -/
def Bin (P : Program) (w : World) (I : Imm) (σ : Nat → Value) (H : Heap) (k : AV → Option RR) (r : RR) (op : BinOp) (T : TypeId) (x y : Operand) (u v : Value) : Prop :=
  ∃ z av, (eqGuard op T x y u v).run P w = .ok () w ∧ (binOp op T u v).run P w = .ok z w ∧ k av = some r ∧ AvV w I σ H av z ∧ av.ids = []

theorem guard_int {op : BinOp} {T : TypeId} {x y : Operand} {i j : IntKind} {p q : Int} : (eqGuard op T x y (.int i p) (.int j q)).run P w = .ok () w := by
  cases op <;> simp [eqGuard]
theorem guard_str {op : BinOp} {T : TypeId} {x y : Operand} {p q : ByteArray} : (eqGuard op T x y (.string p) (.string q)).run P w = .ok () w := by
  cases op <;> simp [eqGuard]
theorem guard_bool {op : BinOp} {T : TypeId} {x y : Operand} {p q : Bool} : (eqGuard op T x y (.bool p) (.bool q)).run P w = .ok () w := by
  cases op <;> simp [eqGuard]
theorem guard_ptr {op : BinOp} {T : TypeId} {x y : Operand} {p q : Option Addr} : (eqGuard op T x y (.pointer p) (.pointer q)).run P w = .ok () w := by
  cases op <;> simp [eqGuard]

theorem wrapK_avv {i : IntKind} {z : Int} : AvV w I σ H (.dat (.int i) (wrapK i z)) (.int i (i.wrap z)) := by
  have := wrapK_in i z
  rw [← wrapK_eq]
  exact avv_int this.1 this.2

theorem int_bin {op : BinOp} {T : TypeId} {x y : Operand} {i j : IntKind} {p q : Int} (hp : i.min ≤ p ∧ p ≤ i.max) (hq : j.min ≤ q ∧ q ≤ j.max) (h : evBin P op T (.dat (.int i) p) (.dat (.int j) q) k = some r) :
    Bin P w I σ H k r op T x y (.int i p) (.int j q) := by
  simp only [evBin, AV.unlb] at h
  split at h
  · obtain ⟨h0, h⟩ := grd_some h
    rw [iLe_eq] at h0
    refine ⟨_, _, guard_int, ?_, h, wrapK_avv, rfl⟩
    simp [binOp, Op.shift, show ¬ (q < 0) by omega, ishl_eq]
  · obtain ⟨h0, h⟩ := grd_some h
    rw [iLe_eq] at h0
    rw [ishr_eq] at h
    have := fdiv_in hp.1 hp.2 (min q.toNat i.bits)
    refine ⟨_, _, guard_int, ?_, h, avv_int this.1 this.2, rfl⟩
    simp [binOp, Op.shift, show ¬ (q < 0) by omega]
  · split at h
    · rename_i hij
      have hij : i = j := by simpa using hij
      subst hij
      split at h
      · rw [iadd_eq] at h; exact ⟨_, _, guard_int, by simp [binOp, Op.intArith], h, wrapK_avv, rfl⟩
      · rw [isub_eq] at h; exact ⟨_, _, guard_int, by simp [binOp, Op.intArith], h, wrapK_avv, rfl⟩
      · rw [imul_eq] at h; exact ⟨_, _, guard_int, by simp [binOp, Op.intArith], h, wrapK_avv, rfl⟩
      · obtain ⟨h0, h⟩ := grd_some h
        rw [iNz_eq] at h0
        rw [iquo_eq] at h; exact ⟨_, _, guard_int, by simp [binOp, Op.intDiv, h0], h, wrapK_avv, rfl⟩
      · obtain ⟨h0, h⟩ := grd_some h
        rw [iNz_eq] at h0
        rw [irem_eq] at h
        have := tmod_in hp.1 hp.2 hq.1 hq.2 h0
        exact ⟨_, _, guard_int, by simp [binOp, Op.intDiv, h0], h, avv_int this.1 this.2, rfl⟩
      · have := bitK_in .and i p q
        exact ⟨_, _, guard_int, by simp [binOp, Op.intBits, bitK, shut_eq], h, avv_int this.1 this.2, rfl⟩
      · have := bitK_in .or i p q
        exact ⟨_, _, guard_int, by simp [binOp, Op.intBits, bitK, shut_eq], h, avv_int this.1 this.2, rfl⟩
      · have := bitK_in .xor i p q
        exact ⟨_, _, guard_int, by simp [binOp, Op.intBits, bitK, shut_eq], h, avv_int this.1 this.2, rfl⟩
      · have := bitK_in .andNot i p q
        exact ⟨_, _, guard_int, by simp [binOp, Op.intBits, bitK, shut_eq], h, avv_int this.1 this.2, rfl⟩
      · exact ⟨_, _, guard_int, by simp [binOp, Op.intCmp, bEq_eq]; rfl, h, avv_bool, rfl⟩
      · exact ⟨_, _, guard_int, by simp [binOp, Op.intCmp, bEq_eq, bNot_eq]; rfl, h, avv_bool, rfl⟩
      · exact ⟨_, _, guard_int, by simp [binOp, Op.intCmp, bLt_eq], h, avv_bool, rfl⟩
      · exact ⟨_, _, guard_int, by simp [binOp, Op.intCmp, bLe_eq], h, avv_bool, rfl⟩
      · exact ⟨_, _, guard_int, by simp [binOp, Op.intCmp, bLt_eq], h, avv_bool, rfl⟩
      · exact ⟨_, _, guard_int, by simp [binOp, Op.intCmp, bLe_eq], h, avv_bool, rfl⟩
      · simp at h
    · simp at h

theorem str_bin {op : BinOp} {T : TypeId} {x y : Operand} {p q : ByteArray} (hp : p.size ≤ maxI) (hq : q.size ≤ maxI) (h : evBin P op T (.dat .str (bytesOf p)) (.dat .str (bytesOf q)) k = some r) :
    Bin P w I σ H k r op T x y (.string p) (.string q) := by
  simp only [evBin, AV.unlb] at h
  split at h
  · obtain ⟨h0, h⟩ := grd_some h
    rw [iLe_eq, iadd_eq, ln_eq, ln_eq, bytesOf_len, bytesOf_len] at h0
    rw [app_eq, ← bytesOf_append] at h
    refine ⟨_, _, guard_str, ?_, h, avv_str ?_, rfl⟩
    · simp only [binOp, Op.stringOp]
      rw [if_neg (by simp [IntKind.max, IntKind.signed, IntKind.bits]; omega)]
      rfl
    · simp [maxI, ByteArray.size_append]; omega
  · exact ⟨_, _, guard_str, by simp only [binOp, Op.stringOp, bytes_beq, Sem.run_pure]; rw [← sEq_eq], h, avv_bool, rfl⟩
  · exact ⟨_, _, guard_str, by simp only [binOp, Op.stringOp, bytes_beq, Sem.run_pure]; rw [← sEq_eq, ← bNot_eq], h, avv_bool, rfl⟩
  · exact ⟨_, _, guard_str, by simp only [binOp, Op.stringOp, bytesLess_ok, Sem.run_pure], h, avv_bool, rfl⟩
  · exact ⟨_, _, guard_str, by simp only [binOp, Op.stringOp, bytesLess_ok, bytes_beq, Sem.run_pure]; rw [← sEq_eq, ← bOr_eq], h, avv_bool, rfl⟩
  · exact ⟨_, _, guard_str, by simp only [binOp, Op.stringOp, bytesLess_ok, bytes_beq, Sem.run_pure]; rw [← sEq_eq, ← bOr_eq, ← bNot_eq], h, avv_bool, rfl⟩
  · exact ⟨_, _, guard_str, by simp only [binOp, Op.stringOp, bytesLess_ok, Sem.run_pure]; rw [← bNot_eq], h, avv_bool, rfl⟩
  · simp at h

theorem ptr_of {T : TypeId} (h : isPtrT P T = true) : ∃ e, P.underlying T = some (.pointer e) := by
  unfold isPtrT at h
  split at h
  · exact ⟨_, by assumption⟩
  · simp at h

theorem equalIn_ptr (d : Nat) {T e : TypeId} (hT : P.underlying T = some (.pointer e)) {p q : Option Addr} (hb : (p = none ∨ q = none)) :
    (Op.equalIn (d + 1) T (.pointer p) (.pointer q)).run P w = .ok (p.isNone && q.isNone) w := by
  rcases hb with rfl | rfl
  · simp [Op.equalIn, run_und hT]
  · cases p <;> simp [Op.equalIn, run_und hT]

theorem nil_bin {op : BinOp} {T : TypeId} {x y : Operand} {p q : Option Addr} {b : Bool} (hb : (p = none ∨ q = none)) (hbe : b = (p.isNone && q.isNone)) (hT : isPtrT P T = true)
    (h : (match op with | .eql => k (.lb b) | .neq => k (.lb !b) | _ => none) = some r) : Bin P w I σ H k r op T x y (.pointer p) (.pointer q) := by
  obtain ⟨e, hT⟩ := ptr_of hT
  have hq : (Op.equal T (.pointer p) (.pointer q)).run P w = .ok b w := by rw [hbe]; exact equalIn_ptr 9999 hT hb
  split at h
  · exact ⟨.bool b, _, guard_ptr, by simp [binOp, hq], h, avv_lb, rfl⟩
  · exact ⟨.bool !b, _, guard_ptr, by simp [binOp, hq], h, avv_lb, rfl⟩
  · simp at h
end
end Go.Ev

