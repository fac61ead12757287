/- A way to show what code computes: part 11: no condition. -/
import Derived.Test.YtocefhfihimjdaaE10
set_option linter.unusedVariables false
namespace Go.Ev

theorem nums_mem {α : Type} {l : List α} {a : Nat × α} (h : a ∈ nums 0 l) : l[a.1]? = some a.2 := by
  unfold nums at h
  simp only [List.mem_map] at h
  obtain ⟨⟨x, i⟩, h1, rfl⟩ := h
  have := List.mem_zipIdx h1
  simp only [Nat.zero_add, Nat.sub_zero] at this ⊢
  obtain ⟨_, h2, h3⟩ := this
  rw [List.getElem?_eq_getElem (by simpa using h2), h3]
  
theorem mem_nums {α : Type} {l : List α} {i : Nat} {x : α} (h : l[i]? = some x) : (i, x) ∈ nums 0 l := by
  unfold nums
  simp only [List.mem_map]
  exact ⟨(x, i), List.mem_zipIdx_iff_getElem?.2 (by simpa using h), by simp⟩

theorem nums_lt {α : Type} {l : List α} {a : Nat × α} (h : a ∈ nums 0 l) : a.1 < l.length := by
  have := nums_mem h
  rw [List.getElem?_eq_some_iff] at this
  exact this.1

noncomputable def ltAll (m : Nat) (l : List Nat) : Bool := l.all fun j => Nat.blt j m
/-- Is a signature one that can be? -/
noncomputable def Sig.okB (s : Sig) : Bool :=
  Nat.ble s.objs.length s.outs.length && Nat.ble s.outs.length 64 && s.objs.all (fun t => ltAll s.objs.length t.refs) && s.outs.all (fun t => ltAll s.outs.length t.refs) &&
  s.args.all (fun v => ltAll s.objs.length v.ids) && ltAll s.outs.length s.res.ids && (s.objs.zip s.outs).all fun a => isBox a.1 == isBox a.2

theorem ltAll_ok {m : Nat} {l : List Nat} (h : ltAll m l = true) : ∀ j ∈ l, j < m := by
  unfold ltAll at h
  rw [List.all_eq_true] at h
  exact fun j hj => Nat.le_of_ble_eq_true (h j hj)

structure Sig.Ok (s : Sig) : Prop where
  le : s.objs.length ≤ s.outs.length
  max : s.outs.length ≤ 64
  objs : ∀ t ∈ s.objs, ∀ j ∈ t.refs, j < s.objs.length
  outs : ∀ t ∈ s.outs, ∀ j ∈ t.refs, j < s.outs.length
  args : ∀ v ∈ s.args, ∀ j ∈ v.ids, j < s.objs.length
  res : ∀ j ∈ s.res.ids, j < s.outs.length
  box : ∀ (j : Nat) (t u : Ty), s.objs[j]? = some t → s.outs[j]? = some u → isBox t = isBox u

theorem Sig.ok_of {s : Sig} (h : s.okB = true) : s.Ok := by
  unfold Sig.okB at h
  simp only [Bool.and_eq_true, List.all_eq_true] at h
  obtain ⟨⟨⟨⟨⟨⟨h1, h2⟩, h3⟩, h4⟩, h5⟩, h6⟩, h7⟩ := h
  refine ⟨Nat.le_of_ble_eq_true h1, Nat.le_of_ble_eq_true h2, fun t ht => ltAll_ok (h3 t ht), fun t ht => ltAll_ok (h4 t ht), fun v hv => ltAll_ok (h5 v hv), ltAll_ok h6, fun j t u ht hu => ?_⟩
  have := h7 (t, u) (List.mem_iff_getElem?.2 ⟨j, by rw [List.getElem?_zip_eq_some]; exact ⟨ht, hu⟩⟩)
  simpa using this

theorem Sig.Ok.inN {s : Sig} (h : s.Ok) : s.inS.okN 64 := by
  have := h.le
  have := h.max
  refine ⟨fun a ha => ⟨by have := nums_lt ha; omega, fun j hj => ?_⟩, fun v hv id hid => ?_⟩
  · have := h.objs a.2 (List.mem_of_getElem? (nums_mem ha)) j hj; omega
  · have := h.args v.2 (List.mem_of_getElem? (nums_mem hv)) id hid; omega
theorem Sig.Ok.outN {s : Sig} (h : s.Ok) : s.outS.okN 64 := by
  have := h.max
  refine ⟨fun a ha => ⟨by have := nums_lt ha; omega, fun j hj => ?_⟩, fun v hv id hid => ?_⟩
  · have := h.outs a.2 (List.mem_of_getElem? (nums_mem ha)) j hj; omega
  · simp only [Sig.outS, List.mem_singleton] at hv
    subst hv
    have := h.res id hid; omega

/-- Where a function begins. -/
def Start.of (w : World) (I : Imm) (σ : Nat → Value) (H : Heap) (own : Own) : Start := ⟨w, I, σ, H, fun b => ∃ j o, H j = some o ∧ b ∈ own j⟩

/-- What a function does is what is said of it. -/
def FnOk (P : Program) (f : FuncId) (c : Con) : Prop :=
  ∀ (x : HL c.sig.inS.leaves) (z : Tys c.sig.out), c.fn (HL.pk _ x) = some z → ∀ (w : World) (I : Imm) (σ : Nat → Value) (own : Own) (vs : List Value),
    Inv (Start.of w I σ (c.sig.inS.heapOf x) own) 64 w I σ (c.sig.inS.heapOf x) own [] → vs.length = c.sig.args.length → (∀ t, AvV w I σ (c.sig.inS.heapOf x) (c.sig.inS.tmpsOf x t) (vs.getD t undef)) →
    Calls P f vs.toArray w fun e w' => ∃ v, e = .returned v ∧ ∃ (u : HL c.sig.outS.leaves) (I' : Imm) (σ' : Nat → Value) (own' : Own), z = HL.pk _ u ∧
      Inv (Start.of w I σ (c.sig.inS.heapOf x) own) 64 w' I' σ' (c.sig.outS.heapOf u) own' [] ∧ AvV w' I' σ' (c.sig.outS.heapOf u) (c.sig.outS.tmpsOf u 0) v ∧ (∀ j, j < c.sig.objs.length → σ' j = σ j) ∧
      ∀ j o o', c.sig.inS.heapOf x j = some o → c.sig.outS.heapOf u j = some o' → o'.t.handle = true → o.t.handle = true ∧ o.t.hk = o'.t.hk

theorem self_find (objs : List Ty) : ∀ (b : Nat) (j : Nat) (x : Nat × Path), Asg.find ((nums b objs).map fun (j, _) => (j, j, [])) j = some x → x = (j, []) := by
  intro b j x h
  have := asg_mem h
  simp only [List.mem_map] at this
  obtain ⟨a, _, h2⟩ := this
  obtain ⟨a1, a2⟩ := a
  simp only [Prod.mk.injEq] at h2
  obtain ⟨rfl, h2⟩ := h2
  exact h2.symm

theorem self_has (objs : List Ty) {j : Nat} (h : j < objs.length) : Asg.find ((nums 0 objs).map fun (j, _) => (j, j, ([] : Path))) j = some (j, []) := by
  cases hf : Asg.find ((nums 0 objs).map fun (j, _) => (j, j, ([] : Path))) j with
  | some x => rw [self_find objs 0 j x hf]
  | none =>
    exfalso
    unfold Asg.find at hf
    simp only [Option.map_eq_none_iff, List.find?_eq_none] at hf
    have := hf (j, j, []) (List.mem_map.2 ⟨(j, objs[j]), mem_nums (by simp), rfl⟩)
    simp at this

section
variable {P : Program} {C0 C : Handler} {A : Nat → Option Ann}

theorem act_getD (vs : List Value) (m t : Nat) : (vs.toArray ++ Array.replicate m undef).getD t undef = vs.getD t undef := by
  rw [Array.getD_eq_getD_getElem?, List.getD_eq_getElem?_getD, Array.getElem?_append]
  split
  · simp
  · rename_i h
    simp only [List.size_toArray, Nat.not_lt] at h
    rw [Array.getElem?_replicate, List.getElem?_eq_none h]
    split <;> rfl

theorem runF_ok {f : FuncId} {fn : Func} {c : Con} (hC : HandlerOk P C) (hD : DrawOk P C0) (hf : P.funcs[f]? = some fn) (hs : c.sig.Ok) (he : ∀ x, runF P C0 C A fn c.sig x = c.fn x) : FnOk P f c := by
  intro x z hz w I σ own vs R hlen hv
  rw [← he] at hz
  unfold runF at hz
  obtain ⟨body, hb, hz⟩ := Option.bind_eq_some_iff.1 hz
  split at hz
  · simp at hz
  rename_i hok
  simp only [Bool.not_eq_true', Bool.not_eq_false, Bool.and_eq_true] at hok
  obtain ⟨hd, hle⟩ := hok
  have hle := Nat.le_of_ble_eq_true hle
  refine calls_of_wp hf hb ?_
  let S := Start.of w I σ (c.sig.inS.heapOf x) own
  let B : Base := ⟨64, w, I, σ, c.sig.inS.heapOf x⟩
  have hAt : At S B fn.ntmps 64 w (c.sig.inS.give (HL.pk _ x)) { tmps := vs.toArray ++ Array.replicate (fn.ntmps - vs.toArray.size) undef, defers := [] } := by
    refine ⟨⟨I, σ, own, [], ?_, ?_, ?_⟩, Nat.le_refl _, fun j o ho => (hs.inN.lt ho).1, rfl, ?_⟩
    · rw [give_eq]; exact R
    · rw [give_eq]
      refine ⟨fun t => ?_, fun t id hid => ?_⟩
      · simp only [act_getD]; exact hv t
      · obtain ⟨v, h1, h2⟩ := fillVals_ids _ _ t id hid; exact hs.inN.vals v h1 id h2
    · rw [give_eq]; exact Pres.refl _ _ _ _ _
    · simp; omega
  refine ev_ok hC hD body none hd _ S B 64 w _ _ _ z _ hAt hz ?_
  intro e st' n' a' w' hn' hA' hk'
  obtain ⟨I1, σ1, own1, loose1, R1, T1, P1⟩ := hA'.ex
  replace P1 : Pres 64 w I σ (c.sig.inS.heapOf x) w' I1 σ1 st'.heap := P1
  have fin : ((resAV st' P fn.results.toList).bind fun l => outTake c.sig st' (tupAV l)) = some z → a'.defers = [] ∧ ∃ v, (results fn a'.tmps).run P w' = .ok v w' ∧ ∃ v', Ending.returned v = .returned v' ∧ ∃ (u : HL c.sig.outS.leaves) (I' : Imm) (σ' : Nat → Value) (own' : Own), z = HL.pk _ u ∧
      Inv S 64 w' I' σ' (c.sig.outS.heapOf u) own' [] ∧ AvV w' I' σ' (c.sig.outS.heapOf u) (c.sig.outS.tmpsOf u 0) v' ∧ (∀ j, j < c.sig.objs.length → σ' j = σ j) ∧
      ∀ j o o', c.sig.inS.heapOf x j = some o → c.sig.outS.heapOf u j = some o' → o'.t.handle = true → o.t.handle = true ∧ o.t.hk = o'.t.hk := by
    intro hk
    obtain ⟨l, h1, h2⟩ := Option.bind_eq_some_iff.1 hk
    obtain ⟨v, k1, k2, k3⟩ := results_ok R1 T1 h1
    refine ⟨hA'.defers, v, k1, v, rfl, ?_⟩
    unfold outTake at h2
    obtain ⟨⟨u, H, g⟩, h3, h2⟩ := Option.bind_eq_some_iff.1 h2
    obtain ⟨hkeep, h2⟩ := ite_some h2
    simp only [Option.some.injEq] at h2
    subst h2
    rw [List.all_eq_true] at hkeep
    obtain ⟨I2, own2, σn, I3, ownN, X, ouF, D⟩ := tell_ok (st := ⟨fun _ => tupAV l, st'.heap⟩) (val := fun _ => v) R1 (fun _ => ⟨k2, k3⟩) (fun i j id p q h1 h2 => by
      have e1 := self_find _ _ _ _ h1
      have e2 := self_find _ _ _ _ h2
      simp only [Prod.mk.injEq] at e1 e2
      rw [← e1.1, ← e2.1]) h3
    have hin : ∀ j, j < c.sig.objs.length → g.find j = some (j, []) := fun j hj => D.le0 _ _ (self_has _ hj)
    have hkp : ∀ j, j < c.sig.objs.length → ∃ o, H j = some o ∧ o.ok true [] 0 = true := fun j hj => by
      have := hkeep (j, c.sig.objs[j]) (mem_nums (by simp))
      unfold Heap.keeps at this
      simp only at this
      split at this
      · rename_i o ho; exact ⟨o, ho, this⟩
      · simp at this
    have hsig : ∀ j, j < c.sig.objs.length → σn j = σ j := fun j hj => by
      rw [D.names.1 j j (hin j hj)]
      obtain ⟨o, h4, h5⟩ := hkp j hj
      obtain ⟨o0, h6⟩ := heapOf_has (s := c.sig.inS) (x := x) (j := j).2 (List.any_eq_true.2 ⟨(j, c.sig.objs[j]), mem_nums (by simp), by simp⟩)
      exact D.ghost.inv.hdl j o0 o h6 h4 h5
    have hdom : ∀ j o, c.sig.inS.heapOf x j = some o → j < c.sig.objs.length := fun j o ho => by
      obtain ⟨a, h4, h5, _⟩ := fillObjs_mem _ _ ho
      have := nums_lt h4; omega
    refine ⟨u, I3, σn, ownN, rfl, ⟨D.rel fun j o hj => hs.outN.lt hj, D.kept, fun j o hj => D.owns hj, by simp, by simp, by simp, fun id o0 o ho _ _ => hsig id (hdom id o0 ho)⟩, D.vals 0, hsig, fun j o o' ho ho' hh => ?_⟩
    obtain ⟨_, id, q, ob, v0, s', pre, post, lh, e1, e2, e3, e4, F, e6, ⟨mm, e7⟩, e8, e9⟩ := D.objs j o' ho'
    have hj := hdom j o ho
    rw [hin j hj] at e1
    simp only [Option.some.injEq, Prod.mk.injEq] at e1
    obtain ⟨rfl, rfl⟩ := e1
    simp only [Ty.get, Option.some.injEq] at e4
    subst e4
    obtain ⟨f1, f2⟩ := may_handle e7 hh
    obtain ⟨oH, h4, h5⟩ := hkp j hj
    rw [e2] at h4
    injection h4 with h4
    subst h4
    have hPres : Pres 64 w I σ (c.sig.inS.heapOf x) w' I2 σ1 H := P1.trans (D.ghost.pres.less hn')
    obtain ⟨oI, g1, g2⟩ := hPres.obj j ob (hs.inN.lt ho).1 e2
    rw [ho] at g1
    injection g1 with g1
    subst g1
    obtain ⟨u0, g3, g4, _⟩ := g2.at_ true [] 0 (Nat.zero_le _) h5 ⟨ob.t, ob.x⟩ (by simp [Ty.get])
    simp only [Ty.get, Option.some.injEq] at g3
    subst g3
    obtain ⟨g5, g6⟩ := g4 rfl f1
    exact ⟨g5, by rw [g6, f2]⟩
  cases e with
  | normal => exact fin hk'
  | ret => exact fin hk'
  | exit j => simp at hk'

/-- A function, by its text. -/
theorem inline_ok {f : FuncId} {fn : Func} {body : Code} (hC : HandlerOk P C) (hD : DrawOk P C0) (hf : P.funcs[f]? = some fn) (hb : fn.body = some body) (hd : dstOk fn.ntmps body = true)
    {R : Type} {avs : List AV} {vs : List Value} (hle : avs.length ≤ fn.ntmps) {S : Start} {n : Nat} {w : World} {I : Imm} {σ : Nat → Value} {H : Heap} {own : Own} {loose : List Nat} {k : AV → Heap → Nat → Option R} {r : R}
    (Rr : Inv S n w I σ H own loose) (hS : ∀ j o, S.H j = some o → j < n) (hA : All2 (fun av v => AvV w I σ H av v ∧ ∀ id ∈ av.ids, id < n) avs vs)
    (he : ev P C0 C A body none R ⟨fun i => avs.getD i .any, H⟩ n (fun e st m => match e with
            | .exit _ => none
            | _ => (resAV st P fn.results.toList).bind fun l => k (tupAV l) st.heap m) = some r) :
    Calls P f vs.toArray w fun e w' => ∃ v, e = .returned v ∧ ∃ (n' : Nat) (av : AV) (I' : Imm) (σ' : Nat → Value) (H' : Heap) (own' : Own) (loose' : List Nat), n ≤ n' ∧ k av H' n' = some r ∧
      Inv S n' w' I' σ' H' own' loose' ∧ Pres n w I σ H w' I' σ' H' ∧ AvV w' I' σ' H' av v ∧ ∀ id ∈ av.ids, id < n' := by
  have hlen : vs.length = avs.length := by
    clear he hle
    induction avs generalizing vs with
    | nil => cases vs <;> first | rfl | exact hA.elim
    | cons a l ih => cases vs with
      | nil => exact hA.elim
      | cons v vs => simp [ih hA.2]
  refine calls_of_wp hf hb ?_
  have hget : ∀ (avs : List AV) (vs : List Value), All2 (fun av v => AvV w I σ H av v ∧ ∀ id ∈ av.ids, id < n) avs vs → ∀ t, AvV w I σ H (avs.getD t .any) (vs.getD t undef) ∧ ∀ id ∈ (avs.getD t .any).ids, id < n := by
    intro avs
    induction avs with
    | nil => intro vs h t; exact ⟨by simpa using avv_any, by simp [AV.ids]⟩
    | cons a l ih =>
      intro vs h t
      cases vs with
      | nil => exact h.elim
      | cons v vs =>
        cases t with
        | zero => simpa using h.1
        | succ t => simpa using ih vs h.2 t
  have hAt : At S ⟨n, w, I, σ, H⟩ fn.ntmps n w ⟨fun i => avs.getD i .any, H⟩ { tmps := vs.toArray ++ Array.replicate (fn.ntmps - vs.toArray.size) undef, defers := [] } := by
    refine ⟨⟨I, σ, own, loose, Rr, ⟨fun t => ?_, fun t => (hget avs vs hA t).2⟩, Pres.refl _ _ _ _ _⟩, Nat.le_refl _, hS, rfl, ?_⟩
    · simp only [act_getD]; exact (hget avs vs hA t).1
    · simp; omega
  refine ev_ok hC hD body none hd _ S _ n w _ _ _ r _ hAt he ?_
  intro e st' n' a' w' hn' hA' hk'
  obtain ⟨I1, σ1, own1, loose1, R1, T1, P1⟩ := hA'.ex
  have fin : ((resAV st' P fn.results.toList).bind fun l => k (tupAV l) st'.heap n') = some r → a'.defers = [] ∧ ∃ v, (results fn a'.tmps).run P w' = .ok v w' ∧ ∃ v', Ending.returned v = .returned v' ∧ ∃ (n' : Nat) (av : AV) (I' : Imm) (σ' : Nat → Value) (H' : Heap) (own' : Own) (loose' : List Nat), n ≤ n' ∧ k av H' n' = some r ∧
      Inv S n' w' I' σ' H' own' loose' ∧ Pres n w I σ H w' I' σ' H' ∧ AvV w' I' σ' H' av v' ∧ ∀ id ∈ av.ids, id < n' := by
    intro hk
    obtain ⟨l, h1, h2⟩ := Option.bind_eq_some_iff.1 hk
    obtain ⟨v, k1, k2, k3⟩ := results_ok R1 T1 h1
    exact ⟨hA'.defers, v, k1, v, rfl, n', tupAV l, I1, σ1, st'.heap, own1, loose1, hn', h2, R1, P1, k2, k3⟩
  cases e with
  | normal => exact fin hk'
  | ret => exact fin hk'
  | exit j => simp at hk'

/-- What is said of a function holds at any call. -/
def ConOk (P : Program) (f : FuncId) (c : Con) : Prop :=
  ∀ (R : Type) (avs : List AV) (vs : List Value) (S : Start) (n : Nat) (w : World) (I : Imm) (σ : Nat → Value) (H : Heap) (own : Own) (loose : List Nat) (k : AV → Heap → Nat → Option R) (r : R),
    Inv S n w I σ H own loose → (∀ j o, S.H j = some o → j < n) → All2 (fun av v => AvV w I σ H av v ∧ ∀ id ∈ av.ids, id < n) avs vs → callCon c avs H n k = some r →
    Calls P f vs.toArray w fun e w' => ∃ v, e = .returned v ∧ ∃ (n' : Nat) (av : AV) (I' : Imm) (σ' : Nat → Value) (H' : Heap) (own' : Own) (loose' : List Nat), n ≤ n' ∧ k av H' n' = some r ∧
      Inv S n' w' I' σ' H' own' loose' ∧ Pres n w I σ H w' I' σ' H' ∧ AvV w' I' σ' H' av v ∧ ∀ id ∈ av.ids, id < n'

theorem handler_ok {G : FuncId → List AV → Option Con} {As : FuncId → Nat → Option Ann} (hG : ∀ f avs c, G f avs = some c → ConOk P f c) (hD : DrawOk P (handler P G As 0)) : ∀ d, HandlerOk P (handler P G As d)
  | 0 => by
    intro R f avs vs S n w I σ H own loose k r Rr hS hA h
    simp only [handler] at h
    split at h
    · rename_i c hc; exact hG f avs c hc R avs vs S n w I σ H own loose k r Rr hS hA h
    · simp at h
  | d + 1 => by
    intro R f avs vs S n w I σ H own loose k r Rr hS hA h
    rw [handler] at h
    dsimp only at h
    split at h
    · rename_i c hc; exact hG f avs c hc R avs vs S n w I σ H own loose k r Rr hS hA h
    · split at h
      · simp at h
      · rename_i fn hfn
        obtain ⟨body, hb, h⟩ := Option.bind_eq_some_iff.1 h
        obtain ⟨hc, h⟩ := ite_some h
        simp only [Bool.and_eq_true] at hc
        exact inline_ok (handler_ok hG hD d) hD hfn hb hc.1.2 (Nat.le_of_ble_eq_true hc.2) Rr hS hA h
end
end Go.Ev

namespace Go.Ev

theorem ren_width (f : Nat → Nat) : ∀ t : Ty, (t.ren f).width = t.width
  | .one t => by simp only [Ty.ren, Ty.width]; exact ren_width f t
  | .pair a b => by simp only [Ty.ren, Ty.width]; rw [ren_width f a, ren_width f b]
  | .arr n t => by simp only [Ty.ren, Ty.width]; rw [ren_width f t]
  | .list _ | .vec _ _ | .map _ _ | .box _ | .ref _ | .int _ | .bool | .str | .unit | .nil | .hole _ => rfl
theorem ren_pure (f : Nat → Nat) : ∀ t : Ty, (t.ren f).pure = t.pure
  | .one t => by simp only [Ty.ren, Ty.pure]; exact ren_pure f t
  | .pair a b => by simp only [Ty.ren, Ty.pure]; rw [ren_pure f a, ren_pure f b]
  | .arr n t => by simp only [Ty.ren, Ty.pure]; exact ren_pure f t
  | .list t => by simp only [Ty.ren, Ty.pure]; exact ren_pure f t
  | .vec _ _ | .map _ _ | .box _ | .ref _ | .int _ | .bool | .str | .unit | .nil | .hole _ => rfl
theorem ren_refs (f : Nat → Nat) : ∀ t : Ty, (t.ren f).refs = t.refs.map f
  | .one t | .arr _ t | .list t | .vec _ t | .box t => by simp only [Ty.ren, Ty.refs]; exact ren_refs f t
  | .pair a b | .map a b => by simp only [Ty.ren, Ty.refs, List.map_append]; rw [ren_refs f a, ren_refs f b]
  | .ref _ | .int _ | .bool | .str | .unit | .nil | .hole _ => rfl
theorem ren_box (f : Nat → Nat) (t : Ty) : isBox (t.ren f) = isBox t := by cases t <;> rfl
theorem ren_handle (f : Nat → Nat) (t : Ty) : (t.ren f).handle = t.handle ∧ (t.ren f).hk = t.hk := by
  cases t <;> first | exact ⟨rfl, rfl⟩ | exact ⟨rfl, ren_width f _⟩

section
variable {w : World} {I : Imm} {σ σ2 : Nat → Value} {f : Nat → Nat}

theorem TRep.ren' : ∀ {t u : Ty} (_ : u = t.ren f) (he : t.erase = u.erase) (cs : List Value) (x : t.den) (ow : List Nat), (∀ i ∈ t.refs, σ2 (f i) = σ i) → TRep w I σ t cs x ow → TRep w I σ2 u cs (cast (Ty.den_of_erase he) x) ow := by
  intro t
  induction t with
  | int k => intro u hu he cs x ow hs hr; simp only [Ty.ren] at hu; subst hu; simpa [TRep] using hr
  | bool => intro u hu he cs x ow hs hr; simp only [Ty.ren] at hu; subst hu; simpa [TRep] using hr
  | str => intro u hu he cs x ow hs hr; simp only [Ty.ren] at hu; subst hu; simpa [TRep] using hr
  | unit => intro u hu he cs x ow hs hr; simp only [Ty.ren] at hu; subst hu; simpa [TRep] using hr
  | nil => intro u hu he cs x ow hs hr; simp only [Ty.ren] at hu; subst hu; simpa [TRep] using hr
  | hole n => intro u hu he cs x ow hs hr; simp only [Ty.ren] at hu; subst hu; simpa [TRep] using hr
  | map k v _ _ => intro u hu he cs x ow hs hr; exact hr.elim
  | ref i =>
    intro u hu he cs x ow hs hr
    simp only [Ty.ren] at hu; subst hu
    obtain ⟨rfl, a, h1, h2, h3⟩ := hr
    exact ⟨rfl, a, h1, h2, by rw [hs i (by simp [Ty.refs])]; exact h3⟩
  | one t ih =>
    intro u hu he cs x ow hs hr
    simp only [Ty.ren] at hu; subst hu
    exact ih rfl (by simpa [Ty.erase] using he) cs x ow hs hr
  | pair a b iha ihb =>
    intro u hu he cs x ow hs hr
    simp only [Ty.ren] at hu; subst hu
    simp only [Ty.erase, Ty.pair.injEq] at he
    obtain ⟨c1, c2, o1, o2, rfl, rfl, h1, h2⟩ := hr
    rw [cast_prod (Ty.den_of_erase he.1) (Ty.den_of_erase he.2)]
    exact ⟨c1, c2, o1, o2, rfl, rfl, iha rfl he.1 c1 x.1 o1 (fun i hi => hs i (by simp [Ty.refs, hi])) h1, ihb rfl he.2 c2 x.2 o2 (fun i hi => hs i (by simp [Ty.refs, hi])) h2⟩
  | arr n t ih =>
    intro u hu he cs x ow hs hr
    simp only [Ty.ren] at hu; subst hu
    simp only [Ty.erase, Ty.arr.injEq, true_and] at he
    obtain ⟨css, ows, rfl, rfl, hl, ha⟩ := hr
    rw [cast_list (Ty.den_of_erase he)]
    exact ⟨css, ows, rfl, rfl, by simpa using hl, ha.map_b fun c x o _ h => ih rfl he c x o hs h⟩
  | list t ih =>
    intro u hu he cs x ow hs hr
    simp only [Ty.ren] at hu; subst hu
    simp only [Ty.erase, Ty.list.injEq] at he
    obtain ⟨rfl, hp, a, cap, css, ows, rfl, h1, h2, ha, hi⟩ := hr
    rw [cast_list (Ty.den_of_erase he)]
    exact ⟨rfl, by rw [ren_pure]; exact hp, a, cap, css, ows, by simp, by simpa using h1, h2, ha.map_b fun c x o _ h => ih rfl he c x o hs h, fun hx => hi (by intro e; exact hx (by rw [e]; rfl))⟩
  | vec s t ih =>
    intro u hu he cs x ow hs hr
    simp only [Ty.ren] at hu; subst hu
    simp only [Ty.erase, Ty.list.injEq] at he
    obtain ⟨a, cap, rfl, h1, h2, hr⟩ := hr
    rw [cast_list (Ty.den_of_erase he)]
    refine ⟨a, cap, by simp, by simpa using h1, h2, ?_⟩
    rcases hr with ⟨rfl, rfl, rfl, rfl⟩ | ⟨b, es, css, ows, rfl, hblk, hes, hcs, rfl, ha, hi, hss⟩
    · exact .inl ⟨rfl, by simp, rfl, rfl⟩
    · refine .inr ⟨b, es, css, ows, rfl, hblk, by rw [ren_width]; exact hes, by rw [ren_width]; simpa using hcs, rfl, ha.map_b fun c x o _ h => ih rfl he c x o hs h, fun j v hv => by rw [ren_width]; simpa using hi j v hv, fun e => by rw [ren_pure]; exact hss e⟩
  | box t ih =>
    intro u hu he cs x ow hs hr
    simp only [Ty.ren] at hu; subst hu
    simp only [Ty.erase, Ty.box.injEq] at he
    obtain ⟨b, es, o, rfl, hblk, rfl, ht, hi⟩ := hr
    exact ⟨b, es, o, rfl, hblk, rfl, ih rfl he es.toList x o hs ht, hi⟩

theorem TRep.ren {t : Ty} (he : t.erase = (t.ren f).erase) (cs : List Value) (x : t.den) (ow : List Nat) (hs : ∀ i ∈ t.refs, σ2 (f i) = σ i) (h : TRep w I σ t cs x ow) : TRep w I σ2 (t.ren f) cs (cast (Ty.den_of_erase he) x) ow :=
  TRep.ren' rfl he cs x ow hs h

theorem TV.ren_rep {v : TV} {cs : List Value} {ow : List Nat} (hs : ∀ i ∈ v.t.refs, σ2 (f i) = σ i) (h : TRep w I σ v.t cs v.x ow) : TRep w I σ2 (v.ren f).t cs (v.ren f).x ow :=
  TRep.ren (v.t.erase_ren f).symm cs v.x ow hs h
end

theorem get_set : ∀ {q : Path} (_ : Path.lit q = true) {t : Ty} {x : t.den} {u z : TV}, t.set x q u = some z → z.t.get z.x q = some u
  | [], _, t, x, u, z, h => by simp only [Ty.set, Option.some.injEq] at h; subst h; simp [Ty.get]
  | s :: q, hl, t, x, u, z, h => by
    cases s
    case «at» => simp [Path.lit] at hl
    all_goals
      have hl : Path.lit q = true := hl
      cases t <;> simp only [Ty.set, reduceCtorEq] at h
      obtain ⟨y, h1, h2⟩ := Option.bind_eq_some_iff.1 h
      simp only [Option.some.injEq] at h2
      subst h2
      simp only [Ty.get]
      exact get_set hl h1

theorem above_self : ∀ (q : Path), Path.above q q = false
  | [] => rfl
  | s :: q => by cases s <;> exact above_self q

theorem sim_lit : ∀ {q p : Path}, Path.lit q = true → Path.sim q p = true → p = q
  | [], [], _, _ => rfl
  | [], _ :: _, _, h => by simp [Path.sim] at h
  | s :: q, [], hl, h => by cases s <;> simp [Path.sim] at h
  | s :: q, s' :: p, hl, h => by
    cases s <;> cases s' <;> simp [Path.sim, Path.lit] at h hl
    all_goals rw [sim_lit hl h]

theorem above_lit : ∀ {q p : Path}, Path.lit q = true → Path.above q p = true → ∃ s r, p = q ++ s :: r
  | [], s :: r, _, _ => ⟨s, r, rfl⟩
  | [], [], _, h => by simp [Path.above] at h
  | s :: q, [], hl, h => by cases s <;> simp [Path.above] at h
  | s :: q, s' :: p, hl, h => by
    cases s <;> cases s' <;> simp [Path.above, Path.lit] at h hl
    all_goals
      obtain ⟨a, b, e⟩ := above_lit hl h
      exact ⟨a, b, by rw [e]; rfl⟩

theorem above_last : ∀ (q : Path) {s : Stp} {r : Path}, Path.above (q ++ [.d]) (q ++ s :: r) = false → Path.lit q = true → s = .d → r = []
  | [], s, r, h, _, e => by subst e; cases r <;> simp [Path.above] at h; rfl
  | a :: q, s, r, h, hl, e => by
    cases a <;> simp [Path.above, Path.lit] at h hl <;> exact above_last q h hl e

theorem sim_same : ∀ {q : Path}, Path.lit q = true → Path.sim q q = true
  | [], _ => rfl
  | s :: q, h => by
    cases s
    case «at» => simp [Path.lit] at h
    all_goals
      have h : Path.lit q = true := h
      exact sim_same (q := q) h
end Go.Ev

namespace Go.Ev

theorem blkTo_kept {w w' : World} {I : Imm} {σ : Nat → Value} {s : Spot} {p : Path} {t u : Ty} {cs : List Value} {x : t.den} {y : u.den} {ow ou pre post : List Nat} {lh : Bool} (F : Focus w I σ t cs x ow p u y false none 0 s ou pre post lh) {c : Nat} (h : w'.heap[c]? = w.heap[c]?) :
    BlkTo w w' lh s s.cells c := by
  have := blkTo_same F c
  unfold BlkTo at this ⊢
  split
  · rename_i e
    rw [if_pos e] at this
    obtain ⟨es, es', h1, h2, h3⟩ := this
    obtain ⟨eid, h2⟩ := h2
    exact ⟨es, es', h1, ⟨eid, by rw [h, h2]⟩, h3⟩
  · exact h

theorem lit_d : ∀ {q : Path}, Path.lit q = true → Path.lit (q ++ [.d]) = true
  | [], _ => rfl
  | s :: q, h => by
    cases s
    case «at» => simp [Path.lit] at h
    all_goals
      have h : Path.lit q = true := h
      exact lit_d (q := q) h

section
variable {w w' : World} {I : Imm} {σ : Nat → Value} {ob : Obj} {id : Nat} {ow : List Nat} {q : Path} {u : Ty} {y : u.den} {s : Spot} {ou pre post : List Nat} {lh : Bool} {u' z : TV} {c : Value}

/-- Where the cell of a place stands that was given back. -/
theorem plug_spot {I' : Imm} {ou' : List Nat} (F : Focus w I σ ob.t [σ id] ob.x ow q u y false none 0 s ou pre post lh) (hg : ob.t.get ob.x q = some ⟨u, y⟩) (hl : Path.lit q = true) (hset : ob.t.set ob.x q u' = some z) (hw : u'.t.width = u.width)
    (hb : ∀ c ∈ pre ++ post, w'.heap[c]? = w.heap[c]?) {σ2 : Nat → Value} (hz : TRep w' I' σ2 z.t [σ id] z.x (pre ++ ou' ++ post)) (hn : (pre ++ ou' ++ post).Nodup) :
    ∃ s', spot w' z.t [σ id] false none 0 q = some s' ∧ s'.cells = s.cells ∧ s'.blk = s.blk ∧ s'.off = s.off := by
  have hgz := get_set hl hset
  obtain ⟨_, _, h4⟩ := stabT q _ _ _ _ _ hg hw hset q u' (above_self q) hgz
  obtain ⟨s1, s2, k1, k2, k3⟩ := F.stab w' s.cells F.rep.len (fun c hc => blkTo_kept F (hb c hc)) q ⟨u, y⟩ (above_self q) hg (lit_inb hl _ _)
  rw [F.spot] at k1
  injection k1 with k1
  subst k1
  rw [Nat.sub_zero, splice_one F] at k2
  obtain ⟨s3, ou3, pre3, post3, lh3, F3⟩ := focus q z.t [σ id] z.x (pre ++ ou' ++ post) u'.t u'.x false none 0 hz hn hgz (lit_inb hl _ _)
  have e := F3.spot
  rw [h4, k2] at e
  injection e with e
  subst e
  refine ⟨s2, F3.spot, ?_, k3.blk, k3.off⟩
  cases lh3 with
  | true =>
    obtain ⟨c3, es3, a1, a2, a3, a4, a5⟩ := F3.there rfl
    rw [k3.blk] at a1
    cases lh with
    | false => have := (F.here rfl).1; rw [this] at a1; simp at a1
    | true =>
      obtain ⟨c1, es1, b1, b2, b3, b4, b5⟩ := F.there rfl
      rw [b1] at a1
      injection a1 with a1
      subst a1
      obtain ⟨e3, a3⟩ := a3
      obtain ⟨e1, b3⟩ := b3
      rw [hb c1 (by simp [b2]), b3] at a3
      simp only [Option.some.injEq, Go.Obj.cells.injEq] at a3
      obtain ⟨rfl, _⟩ := a3
      rw [a4, b4, k3.off, hw]
  | false =>
    obtain ⟨a1, a2, a3, a4⟩ := F3.here rfl
    rw [k3.blk] at a1
    cases lh with
    | true => obtain ⟨c1, es1, b1, _⟩ := F.there rfl; rw [a1] at b1; simp at b1
    | false =>
      obtain ⟨b1, b2, b3, b4⟩ := F.here rfl
      rw [a3, b3, k3.off, hw]

theorem ObjPres.swap {I' : Imm} {ou' : List Nat} {t0 : Ty} (hr : TRep w I σ ob.t [σ id] ob.x ow) (hn : ow.Nodup) (F : Focus w I σ ob.t [σ id] ob.x ow q u y false none 0 s ou pre post lh) (hg : ob.t.get ob.x q = some ⟨u, y⟩) (hl : Path.lit q = true)
    (hset : ob.t.set ob.x q u' = some z) (hw : u'.t.width = u.width) (hb : ∀ c ∈ pre ++ post, w'.heap[c]? = w.heap[c]?) {σ2 : Nat → Value} (hσ : σ2 id = σ id) (hz : TRep w' I' σ2 z.t [σ id] z.x (pre ++ ou' ++ post)) (hnz : (pre ++ ou' ++ post).Nodup)
    (hrep : TRep w' I' σ2 u'.t s.cells u'.x ou') (hbx : isBox u'.t = isBox t0) (hbu : isBox u = isBox t0) (hh : u'.t.handle = true → u.handle = true ∧ u.hk = u'.t.hk) :
    ObjPres w σ ob w' σ2 ⟨z.t, z.x, ob.ev ++ [awayAt q t0]⟩ id := by
  refine ⟨⟨_, rfl⟩, fun hdr p ver hv hok v' hv' => ?_⟩
  rw [ok_app (ob := ob) (es := [awayAt q t0]) rfl hv, Bool.and_eq_true] at hok
  have hok2 := hok.2
  simp only [List.all_cons, List.all_nil, Bool.and_true, Bool.not_eq_true'] at hok2
  rw [hσ]
  cases hab : Path.above q p with
  | false =>
    obtain ⟨⟨v, h1, h2⟩, h3, h4⟩ := stabT q _ _ _ _ _ hg hw hset p v' hab hv'
    refine ⟨v, h1, fun _ eh => h2 (.inr hh) eh, fun hi => ⟨h3 hi, fun s1 hs1 => ?_⟩⟩
    obtain ⟨s1', s2, k1, k2, k3⟩ := F.stab w' s.cells F.rep.len (fun c hc => blkTo_kept F (hb c hc)) p v hab h1 hi
    rw [Nat.sub_zero, splice_one F] at k2
    rw [hs1] at k1
    injection k1 with k1
    subst k1
    refine ⟨s2, by rw [h4]; exact k2, k3.blk, k3.off, fun e eh => ?_⟩
    cases hs : Path.sim q p with
    | false =>
      refine k3.cells ?_
      rw [(h2 (.inl hs) eh).1, hs]; rfl
    | true =>
      have hp := sim_lit hl hs
      subst hp
      obtain ⟨s', e1, e2, _⟩ := plug_spot F hg hl hset hw hb hz hnz
      rw [h4, k2] at e1
      injection e1 with e1
      subst e1
      rw [F.spot] at hs1
      injection hs1 with hs1
      subst hs1
      exact e2
  | true =>
    obtain ⟨sp, r, rfl⟩ := above_lit hl hab
    cases ht : isBox t0 with
    | false =>
      exfalso
      have : awayAt q t0 = (false, q) := by cases t0 <;> first | rfl | simp [isBox] at ht
      rw [this] at hok2
      simp [hit, hab] at hok2
    | true =>
      have : awayAt q t0 = (true, q ++ [.d]) := by cases t0 <;> simp [isBox] at ht; rfl
      rw [this] at hok2
      simp only [hit, Bool.true_and, Bool.or_eq_false_iff] at hok2
      obtain ⟨hok2, hok3⟩ := hok2
      rw [ht] at hbx hbu
      obtain ⟨ut, ux⟩ := u'
      cases ut <;> simp [isBox] at hbx
      cases u <;> simp [isBox] at hbu
      rename_i ta tb
      have hgz := get_set hl hset
      simp only at hv'
      rw [get_append, hgz] at hv'
      have hsp : sp = .d := by cases sp <;> simp [Ty.get] at hv'; rfl
      subst hsp
      have hrn := above_last q hok2 hl rfl
      subst hrn
      have hhdr : hdr = false := by
        cases hdr with
        | false => rfl
        | true =>
          rw [sim_same (lit_d hl)] at hok3; simp at hok3
      subst hhdr
      refine ⟨⟨tb, y⟩, by rw [get_append, hg]; simp [Ty.get], fun e => by simp at e, fun hi => ⟨?_, fun s1 hs1 => ?_⟩⟩
      · exact (inb_append q [.d] _ _ _ hgz).2 ⟨lit_inb hl _ _, by simp [Inb, inb_nil]⟩
      · obtain ⟨s', e1, e2, _⟩ := plug_spot F hg hl hset hw hb hz hnz
        rw [spot_append w q [.d] _ _ _ _ _ _ _ hg, F.spot] at hs1
        rw [spot_append w' q [.d] _ _ _ _ _ _ _ hgz, e1]
        simp only [Option.bind_some, spot, e2] at hs1 ⊢
        obtain ⟨b, es, o, f1, ⟨eid, f2⟩, _⟩ := hrep
        obtain ⟨b0, es0, o0, g1, ⟨eid0, g2⟩, _⟩ := F.rep
        have hbb : b0 = b := by rw [g1] at f1; simpa using f1
        subst hbb
        rw [g1] at hs1 ⊢
        simp only [hdrBlk, f2, g2, Option.bind_some, spot_nil, Option.some.injEq] at hs1 ⊢
        subst hs1
        exact ⟨_, rfl, rfl, rfl, fun e => by simp at e⟩
end
end Go.Ev

namespace Go.Ev

theorem nums_nodup {α : Type} (l : List α) : ((nums 0 l).map (·.1)).Nodup := by
  have : (nums 0 l).map (·.1) = (l.zipIdx).map (·.2) := by
    unfold nums
    rw [List.map_map]
    apply List.map_congr_left
    rintro ⟨a, b⟩ _
    simp
  rw [this, List.zipIdx_map_snd]
  exact List.nodup_range'

noncomputable abbrev rn (g : Asg) (base : Nat) : Nat → Nat := fun i => (renId g base i).1

theorem putOuts_ok {g : Asg} {base : Nat} (hinj : g.inj) (hlt : ∀ j id q, g.find j = some (id, q) → id < base) : ∀ (os : List (Nat × Ty)) (y : HL (os.map (·.2))) {H H2 : Heap}, putOuts g base os y H = some H2 → (os.map (·.1)).Nodup →
    (∀ a ∈ os, ∀ i ∈ a.2.refs, (renId g base i).2 = [] ∧ i < 64) ∧
    ∀ id o, H2 id = some o →
      (∃ a ∈ os, ∃ q o0 v z, g.find a.1 = some (id, q) ∧ H id = some o0 ∧ fillObjs os y a.1 = some ⟨a.2, v, []⟩ ∧ o0.t.set o0.x q (TV.ren (rn g base) ⟨a.2, v⟩) = some z ∧ o = ⟨z.t, z.x, o0.ev ++ [awayAt q a.2]⟩) ∨
      (∃ a ∈ os, ∃ v, g.find a.1 = none ∧ id = base + a.1 ∧ fillObjs os y a.1 = some ⟨a.2, v, []⟩ ∧ o = ⟨(TV.ren (rn g base) ⟨a.2, v⟩).t, (TV.ren (rn g base) ⟨a.2, v⟩).x, []⟩) ∨
      ((∀ a ∈ os, ∀ q, g.find a.1 ≠ some (id, q)) ∧ (∀ a ∈ os, g.find a.1 = none → id ≠ base + a.1) ∧ H id = some o) := by
  intro os
  induction os with
  | nil =>
    intro y H H2 h _
    simp only [putOuts, Option.some.injEq] at h
    subst h
    exact ⟨by simp, fun id o ho => .inr (.inr ⟨by simp, by simp, ho⟩)⟩
  | cons jt r ih =>
    obtain ⟨j, t⟩ := jt
    intro y H H2 h hnd
    simp only [putOuts] at h
    split at h
    · simp at h
    rename_i hrefs
    simp only [Bool.not_eq_true', Bool.not_eq_false, List.all_eq_true, Bool.and_eq_true, List.isEmpty_iff] at hrefs
    simp only [List.map_cons, List.nodup_cons, List.mem_map, not_exists, not_and] at hnd
    obtain ⟨hj, hnd⟩ := hnd
    have hne : ∀ a ∈ r, a.1 ≠ j := fun a ha e => hj a ha e
    have hhead : fillObjs ((j, t) :: r) y j = some ⟨t, y.1, []⟩ := by simp [fillObjs]
    have htail : ∀ a ∈ r, fillObjs ((j, t) :: r) y a.1 = fillObjs r y.2 a.1 := fun a ha => by simp only [fillObjs]; rw [if_neg (hne a ha)]
    have hR : ∀ a ∈ (j, t) :: r, a = (j, t) ∨ a ∈ r := fun a ha => List.mem_cons.1 ha
    have href0 : ∀ i ∈ t.refs, (renId g base i).2 = [] ∧ i < 64 := fun i hi => ⟨(hrefs i hi).1, Nat.le_of_ble_eq_true (hrefs i hi).2⟩
    split at h
    · rename_i id0 q0 hf
      obtain ⟨o0, h1, h⟩ := Option.bind_eq_some_iff.1 h
      obtain ⟨o1, h2, h⟩ := Option.bind_eq_some_iff.1 h
      obtain ⟨z, h3, rfl⟩ := obj_set h2
      obtain ⟨k1, k2⟩ := ih y.2 h hnd
      refine ⟨fun a ha => ?_, fun id o ho => ?_⟩
      · rcases hR a ha with rfl | ha
        · exact href0
        · exact k1 a ha
      · rcases k2 id o ho with ⟨a, a1, q, o2, v, z2, a2, a3, a4, a5, a6⟩ | ⟨a, a1, v, a2, a3, a4, a5⟩ | ⟨a1, a2, a3⟩
        · have hid : id ≠ id0 := fun e => by subst e; exact hne a a1 (hinj _ _ _ _ _ a2 hf)
          rw [put_ne _ _ hid] at a3
          exact .inl ⟨a, by simp [a1], q, o2, v, z2, a2, a3, by rw [htail a a1]; exact a4, a5, a6⟩
        · exact .inr (.inl ⟨a, by simp [a1], v, a2, a3, by rw [htail a a1]; exact a4, a5⟩)
        · by_cases hid : id = id0
          · subst hid
            rw [put_self] at a3
            simp only [Option.some.injEq] at a3
            subst a3
            exact .inl ⟨(j, t), by simp, q0, o0, y.1, z, hf, h1, hhead, h3, rfl⟩
          · rw [put_ne _ _ hid] at a3
            refine .inr (.inr ⟨fun a ha q e => ?_, fun a ha e => ?_, a3⟩)
            · rcases hR a ha with rfl | ha
              · simp only at e; rw [hf] at e; simp only [Option.some.injEq, Prod.mk.injEq] at e; exact hid e.1.symm
              · exact a1 a ha q e
            · rcases hR a ha with rfl | ha
              · simp only at e; rw [hf] at e; simp at e
              · exact a2 a ha e
    · rename_i hf
      obtain ⟨k1, k2⟩ := ih y.2 h hnd
      refine ⟨fun a ha => ?_, fun id o ho => ?_⟩
      · rcases hR a ha with rfl | ha
        · exact href0
        · exact k1 a ha
      · rcases k2 id o ho with ⟨a, a1, q, o2, v, z2, a2, a3, a4, a5, a6⟩ | ⟨a, a1, v, a2, a3, a4, a5⟩ | ⟨a1, a2, a3⟩
        · have hid : id ≠ base + j := fun e => by have := hlt _ _ _ a2; omega
          rw [put_ne _ _ hid] at a3
          exact .inl ⟨a, by simp [a1], q, o2, v, z2, a2, a3, by rw [htail a a1]; exact a4, a5, a6⟩
        · exact .inr (.inl ⟨a, by simp [a1], v, a2, a3, by rw [htail a a1]; exact a4, a5⟩)
        · by_cases hid : id = base + j
          · subst hid
            rw [put_self] at a3
            simp only [Option.some.injEq] at a3
            subst a3
            exact .inr (.inl ⟨(j, t), by simp, y.1, hf, rfl, hhead, rfl⟩)
          · rw [put_ne _ _ hid] at a3
            refine .inr (.inr ⟨fun a ha q e => ?_, fun a ha e => ?_, a3⟩)
            · rcases hR a ha with rfl | ha
              · simp only at e; rw [hf] at e; simp at e
              · exact a1 a ha q e
            · rcases hR a ha with rfl | ha
              · exact hid
              · exact a2 a ha e

section
variable {w : World} {I : Imm} {σ σ2 : Nat → Value} {Hn H2 : Heap} {g : Asg} {base m : Nat}

/-- An object of a call, and where it is then. -/
def Lent (w : World) (σ σ2 : Nat → Value) (Hn H2 : Heap) (g : Asg) (base m : Nat) : Prop :=
  ∀ j, j < m → ∀ ob, H2 (rn g base j) = some ob → ∃ obn s, Hn j = some obn ∧ obn.ev = [] ∧ Path.lit (renId g base j).2 = true ∧ ob.t.get ob.x (renId g base j).2 = some (TV.ren (rn g base) ⟨obn.t, obn.x⟩) ∧
    spot w ob.t [σ2 (rn g base j)] false none 0 (renId g base j).2 = some s ∧ s.cells = [σ j]

theorem renA_shape (v : AV) : v.renA g base H2 = .any ∨ (isT (v.renA g base H2) = isT v ∧ (v.renA g base H2).agg = v.agg) := by
  cases v with
  | ptr id p q off ver => simp only [AV.renA]; split <;> first | exact .inr ⟨rfl, rfl⟩ | exact .inl rfl
  | slw id p ver => simp only [AV.renA]; split <;> first | exact .inr ⟨rfl, rfl⟩ | exact .inl rfl
  | sub id p ver off len => exact .inl rfl
  | mp id p ver => simp only [AV.renA]; split <;> first | exact .inr ⟨rfl, rfl⟩ | exact .inl rfl
  | _ => exact .inr ⟨rfl, rfl⟩

theorem renA_ids (v : AV) : ∀ id ∈ (v.renA g base H2).ids, ∃ j ∈ v.ids, id = rn g base j := by
  induction v with
  | ptr id p q off ver => intro j hj; simp only [AV.renA] at hj; split at hj <;> simp [AV.ids] at hj ⊢; exact hj
  | slw id p ver => intro j hj; simp only [AV.renA] at hj; split at hj <;> simp [AV.ids] at hj ⊢; exact hj
  | sub id p ver off len => intro j hj; simp [AV.renA, AV.ids] at hj
  | mp id p ver => intro j hj; simp only [AV.renA] at hj; split at hj <;> simp [AV.ids] at hj ⊢; exact hj
  | one a ih => exact ih
  | pair a b iha ihb =>
    intro j hj
    simp only [AV.renA, AV.ids, List.mem_append] at hj ⊢
    rcases hj with hj | hj
    · obtain ⟨k, h1, h2⟩ := iha j hj; exact ⟨k, .inl h1, h2⟩
    · obtain ⟨k, h1, h2⟩ := ihb j hj; exact ⟨k, .inr h1, h2⟩
  | tup a b iha ihb =>
    intro j hj
    simp only [AV.renA, AV.ids, List.mem_append] at hj ⊢
    rcases hj with hj | hj
    · obtain ⟨k, h1, h2⟩ := iha j hj; exact ⟨k, .inl h1, h2⟩
    · obtain ⟨k, h1, h2⟩ := ihb j hj; exact ⟨k, .inr h1, h2⟩
  | clo f c ih => exact ih
  | _ => intro j hj; simp [AV.renA, AV.ids] at hj

theorem now_le {H : Heap} {id : Nat} {ob : Obj} (h : H id = some ob) : H.now id ≤ ob.ev.length := by unfold Heap.now; rw [h]; exact Nat.le_refl _

/-- What a function gave stands for the same behind its call. -/
theorem renA_ok (L : Lent w σ σ2 Hn H2 g base m) : ∀ (v : AV), (∀ j ∈ v.ids, j < m) →
    (∀ c, (AvR w I σ Hn v).1 c → (AvR w I σ2 H2 (v.renA g base H2)).1 c) ∧ (isT v = true → ∀ c, (AvR w I σ Hn v).2 c → (AvR w I σ2 H2 (v.renA g base H2)).2 c) ∧ ∀ val, AvV w I σ Hn v val → AvV w I σ2 H2 (v.renA g base H2) val := by
  have toV : ∀ v : AV, (∀ c, (AvR w I σ Hn v).1 c → (AvR w I σ2 H2 (v.renA g base H2)).1 c) → (isT v = true → ∀ c, (AvR w I σ Hn v).2 c → (AvR w I σ2 H2 (v.renA g base H2)).2 c) → ∀ val, AvV w I σ Hn v val → AvV w I σ2 H2 (v.renA g base H2) val := by
    intro v hc hl val hv
    rcases renA_shape (g := g) (base := base) (H2 := H2) v with e | ⟨e1, e2⟩
    · rw [e]; exact avv_any
    · refine ⟨fun ht => ?_, fun ht => ?_⟩
      · rw [e1] at ht
        obtain ⟨l, k1, k2⟩ := hv.1 ht
        exact ⟨l, k1, hl ht l k2⟩
      · rw [e1] at ht
        rw [e2]
        exact ⟨hc _ (hv.2 ht).1, (hv.2 ht).2⟩
  have hdr : ∀ j, j < m → ∀ ver v k, (∀ ob, Hn j = some ob → ver ≤ ob.ev.length ∧ (ob.ok true [] ver = true → HdrC w σ j ob [] v k)) → ∀ ob, H2 (rn g base j) = some ob →
      H2.now (rn g base j) ≤ ob.ev.length ∧ (ob.ok true (renId g base j).2 (H2.now (rn g base j)) = true → HdrC w σ2 (rn g base j) ob (renId g base j).2 v k) := by
    intro j hj ver v k h ob hob
    refine ⟨now_le hob, fun _ => ?_⟩
    obtain ⟨obn, s, h1, h2, h3, h4, h5, h6⟩ := L j hj ob hob
    obtain ⟨h7, h8⟩ := h obn h1
    rw [h2] at h7
    have hv0 : ver = 0 := by simpa using h7
    have h9 := h8 (by unfold Obj.ok; rw [h2]; simp)
    intro u hu hh
    rw [h4] at hu
    simp only [Option.some.injEq] at hu
    subst hu
    have hrh := ren_handle (rn g base) obn.t
    have hh' : obn.t.handle = true := by rw [← hrh.1]; exact hh
    obtain ⟨k1, k2, s', k3, k4⟩ := h9 ⟨obn.t, obn.x⟩ (by simp [Ty.get]) hh'
    rw [spot_nil] at k3
    simp only [Option.some.injEq] at k3
    subst k3
    exact ⟨lit_inb h3 _ _, by rw [← k2]; exact hrh.2, s, h5, by rw [h6]; exact k4⟩
  have both : ∀ v : AV, (∀ j ∈ v.ids, j < m) → (∀ c, (AvR w I σ Hn v).1 c → (AvR w I σ2 H2 (v.renA g base H2)).1 c) ∧ (isT v = true → ∀ c, (AvR w I σ Hn v).2 c → (AvR w I σ2 H2 (v.renA g base H2)).2 c) := by
    intro v
    induction v with
    | ptr j p q off vr =>
      intro hm
      refine ⟨fun c hc => ?_, fun ht => by simp [isT] at ht⟩
      simp only [AV.renA]
      split
      · rename_i hp
        obtain ⟨rfl, _⟩ := same_eq hp
        obtain ⟨b, o, bs, h1, h2, h3⟩ := hc
        refine ⟨b, o, bs, h1, h2, fun ob hob => ⟨now_le hob, fun _ => ?_⟩⟩
        obtain ⟨obn, s, g1, g2, g3, g4, g5, g6⟩ := L j (hm j (by simp [AV.ids])) ob hob
        obtain ⟨k1, k2⟩ := h3 obn g1
        have k3 := k2 (by unfold Obj.ok; rw [g2]; simp)
        intro u hu
        rw [get_append, g4] at hu
        obtain ⟨nt, nx, nev⟩ := obn
        simp only at hu k3 g4
        cases nt with
        | box t1 =>
          obtain ⟨_, s2, e1, e2, e3⟩ := k3 ⟨t1, nx⟩ (by simp [Ty.get])
          refine ⟨(inb_append _ _ _ _ _ g4).2 ⟨lit_inb g3 _ _, by simp [Inb, TV.ren, Ty.ren, inb_nil]⟩, ?_⟩
          rw [spot_append w _ [.d] _ _ _ _ _ _ _ g4, g5]
          simp only [TV.ren, Ty.ren, Option.bind_some, spot, g6] at e1 ⊢
          obtain ⟨e, f1, f2⟩ := Option.bind_eq_some_iff.1 e1
          rw [f1]
          simp only [spot_nil, Option.some.injEq] at f2
          subst f2
          exact ⟨_, by simp [spot_nil], e2, e3⟩
        | _ => simp [TV.ren, Ty.ren, Ty.get] at hu
      · exact trivial
    | slw j p vr =>
      intro hm
      refine ⟨fun c hc => ?_, fun ht => by simp [isT] at ht⟩
      simp only [AV.renA]
      split
      · rename_i hp
        simp only [List.isEmpty_iff] at hp
        subst hp
        obtain ⟨b, l, cc, k, h1, h3⟩ := hc
        exact ⟨b, l, cc, k, h1, hdr j (hm j (by simp [AV.ids])) vr _ k h3⟩
      · exact trivial
    | mp j p vr =>
      intro hm
      refine ⟨fun c hc => ?_, fun ht => by simp [isT] at ht⟩
      simp only [AV.renA]
      split
      · rename_i hp
        simp only [List.isEmpty_iff] at hp
        subst hp
        obtain ⟨rr, k, h1, h3⟩ := hc
        exact ⟨rr, k, h1, hdr j (hm j (by simp [AV.ids])) vr _ k h3⟩
      · exact trivial
    | sub j p vr off len => exact fun _ => ⟨fun c hc => trivial, fun ht => by simp [isT] at ht⟩
    | one a ih => intro hm; exact ⟨fun c hc => (ih hm).1 c hc, fun ht => by simp [isT] at ht⟩
    | pair a b iha ihb =>
      intro hm
      refine ⟨fun c hc => ?_, fun ht => by simp [isT] at ht⟩
      obtain ⟨c1, c2, e, h1, h2⟩ := hc
      exact ⟨c1, c2, e, (iha fun j hj => hm j (by simp [AV.ids, hj])).1 _ h1, (ihb fun j hj => hm j (by simp [AV.ids, hj])).1 _ h2⟩
    | tup a b iha ihb =>
      intro hm
      refine ⟨fun c hc => hc.elim, fun _ c hc => ?_⟩
      obtain ⟨v, r, e, h1, h2⟩ := hc
      have ka := iha fun j hj => hm j (by simp [AV.ids, hj])
      have kb := ihb fun j hj => hm j (by simp [AV.ids, hj])
      refine ⟨v, r, e, toV a ka.1 ka.2 _ h1, ?_⟩
      by_cases ht : isT b = true
      · exact kb.2 ht r h2
      · exfalso
        cases b <;> first | exact ht rfl | exact h2
    | clo f c ih =>
      intro hm
      refine ⟨fun cs hc => ?_, fun ht => by simp [isT] at ht⟩
      obtain ⟨l, e, h1⟩ := hc
      refine ⟨l, e, ?_⟩
      by_cases ht : isT c = true
      · exact (ih hm).2 ht l h1
      · exfalso
        cases c <;> first | exact ht rfl | exact h1
    | tnil => exact fun _ => ⟨fun c hc => hc, fun _ c hc => hc⟩
    | dat t x => exact fun _ => ⟨fun c hc => ⟨hc.1, hc.2.lift (Imm.le_refl _) hc.1⟩, fun ht => by simp [isT] at ht⟩
    | vptr t x =>
      refine fun _ => ⟨fun c hc => ?_, fun ht => by simp [isT] at ht⟩
      obtain ⟨hp, b, o, es, h1, h2, h3⟩ := hc
      exact ⟨hp, b, o, es, h1, h2.lift (Imm.le_refl _) hp, h3⟩
    | _ => exact fun _ => ⟨fun c hc => hc, fun ht => by simp [isT] at ht⟩
  exact fun v hm => ⟨(both v hm).1, (both v hm).2, toV v (both v hm).1 (both v hm).2⟩
end
end Go.Ev

namespace Go.Ev

section
variable {P : Program}

theorem all2_len {A B : Type} {R : A → B → Prop} : ∀ {a : List A} {b : List B}, All2 R a b → b.length = a.length
  | [], [], _ => rfl
  | _ :: a, _ :: b, h => by simp [all2_len h.2]
  | [], _ :: _, h | _ :: _, [], h => h.elim

theorem all2_getD {n : Nat} {w : World} {I : Imm} {σ : Nat → Value} {H : Heap} : ∀ (avs : List AV) (vs : List Value), All2 (fun av v => AvV w I σ H av v ∧ ∀ id ∈ av.ids, id < n) avs vs → ∀ t, AvV w I σ H (avs.getD t .any) (vs.getD t undef) ∧ ∀ id ∈ (avs.getD t .any).ids, id < n := by
  intro avs
  induction avs with
  | nil => intro vs h t; exact ⟨by simpa using avv_any, by simp [AV.ids]⟩
  | cons a l ih =>
    intro vs h t
    cases vs with
    | nil => exact h.elim
    | cons v vs =>
      cases t with
      | zero => simpa using h.1
      | succ t => simpa using ih vs h.2 t

theorem con_ok {f : FuncId} {c : Con} (hs : c.sig.Ok) (hf : FnOk P f c) : ConOk P f c := by
  intro RR avs vs S n w I σ H own loose k r R hS hA h
  unfold callCon at h
  obtain ⟨hlen, h⟩ := ite_some h
  obtain ⟨⟨x, H1, g⟩, h1, h⟩ := Option.bind_eq_some_iff.1 h
  obtain ⟨hdom, h⟩ := ite_some h
  rw [bnd_eq] at h
  obtain ⟨z, hz, h⟩ := Option.bind_eq_some_iff.1 h
  obtain ⟨H2, hput, h⟩ := Option.bind_eq_some_iff.1 h
  have hdom : ∀ j x, g.find j = some x → j < c.sig.objs.length := fun j x hj => by
    rw [List.all_eq_true] at hdom
    simpa using hdom _ (asg_mem hj)
  obtain ⟨I1, own1, σn, I2, ownN, X, ouF, D⟩ := tell_ok (st := ⟨fun i => avs.getD i .any, H⟩) (val := fun t => vs.getD t undef) R (fun t => all2_getD avs vs hA t) (fun i j id p q h => by simp [Asg.find] at h) h1
  have R1 := D.ghost.inv
  let Sc := Start.of w I2 σn (c.sig.inS.heapOf x) ownN
  have Rc : Inv Sc 64 w I2 σn (c.sig.inS.heapOf x) ownN [] :=
    ⟨D.rel fun j o hj => hs.inN.lt hj, Kept.refl _ _ _, fun j o hj b hb => .inl ⟨j, o, hj, hb⟩, by simp, by simp, by simp, fun _ _ _ _ _ _ => rfl⟩
  have hvl : vs.length = c.sig.args.length := by rw [all2_len hA]; simpa using hlen
  refine Calls.mono (hf x z hz w I2 σn ownN vs Rc hvl D.vals) fun e w' he => ?_
  obtain ⟨v, rfl, u, I', σ', own', rfl, R', hv, hsig, hhk⟩ := he
  refine ⟨v, rfl, ?_⟩
  replace hput : putOuts g n (nums 0 c.sig.outs) (HL.snd (valsLeaves c.sig.outS.vals) _ u) H1 = some H2 :=
    (congrArg (fun q : HL c.sig.outS.leaves => putOuts g n (nums 0 c.sig.outs) (HL.snd (valsLeaves c.sig.outS.vals) _ q) H1) (HL.un_pk c.sig.outS.leaves u)).symm.trans hput
  replace h : k ((c.sig.outS.tmpsOf u 0).renA g n H2) H2 (n + 64) = some r :=
    (congrArg (fun q : HL c.sig.outS.leaves => k ((c.sig.outS.tmpsOf q 0).renA g n H2) H2 (n + 64)) (HL.un_pk c.sig.outS.leaves u)).symm.trans h
  -- names
  have hlt1 : ∀ j id q, g.find j = some (id, q) → id < n := fun j id q hj => by
    have hjl := hdom j _ hj
    obtain ⟨o, ho⟩ := heapOf_has (s := c.sig.inS) (x := x) (j := j).2 (List.any_eq_true.2 ⟨(j, c.sig.objs[j]), mem_nums (by simp), by simp⟩)
    obtain ⟨id', q', ob, e1, e2, _⟩ := D.sub ho
    rw [hj] at e1
    simp only [Option.some.injEq, Prod.mk.injEq] at e1
    obtain ⟨rfl, rfl⟩ := e1
    exact (R1.rel.lt _ _ e2).1
  have hinH : ∀ j, j < c.sig.objs.length → ∃ o, c.sig.inS.heapOf x j = some o := fun j hj =>
    heapOf_has.2 (List.any_eq_true.2 ⟨(j, c.sig.objs[j]), mem_nums (by simp), by simp⟩)
  have houtH : ∀ j o, c.sig.outS.heapOf u j = some o → j < c.sig.outs.length := fun j o ho => by
    obtain ⟨a, h4, h5, _⟩ := fillObjs_mem _ _ ho
    have := nums_lt h4; omega
  obtain ⟨hrefs, hH2⟩ := putOuts_ok D.inj hlt1 _ _ hput (nums_nodup _)
  let σ2 : Nat → Value := fun id => if n ≤ id ∧ id < n + 64 then σ' (id - n) else σ id
  have hσ2 : ∀ id, id < n → σ2 id = σ id := fun id hid => if_neg (by omega)
  have hσn : ∀ j, j < 64 → g.find j = none → σ2 (rn g n j) = σ' j := fun j hj hf => by
    show σ2 (renId g n j).1 = σ' j
    unfold renId
    rw [hf]
    simp only [σ2]
    rw [if_pos (by omega), Nat.add_sub_cancel_left]
  have hσr : ∀ i, (renId g n i).2 = [] → i < 64 → σ2 (rn g n i) = σ' i := fun i h1 h2 => by
    cases hfi : g.find i with
    | none => exact hσn i h2 hfi
    | some y =>
      obtain ⟨id, q⟩ := y
      have e : renId g n i = (id, q) := by unfold renId; rw [hfi]
      rw [e] at h1
      simp only at h1
      subst h1
      show σ2 (renId g n i).1 = σ' i
      rw [e]
      simp only
      rw [hσ2 id (hlt1 _ _ _ hfi), hsig i (hdom i _ hfi), D.names.1 i id hfi]
  -- blocks
  have hScsub : ∀ b, Sc.O b → ∃ j o, c.sig.inS.heapOf x j = some o ∧ b ∈ ownN j := fun b hb => hb
  have hSclt : ∀ b, Sc.O b → b < w.heap.size := fun b hb => by
    obtain ⟨j, o, h1, h2⟩ := hb
    exact Rc.lt_size h1 b h2
  have hkb : ∀ b, b < w.heap.size → ¬ Sc.O b → b ∉ X → w'.heap[b]? = w.heap[b]? ∧ ∀ k, I' b k = I1 b k := fun b h1 h2 h3 => by
    obtain ⟨k1, k2⟩ := R'.kept.blk b h1 h2
    exact ⟨k1, fun k => by rw [k2 k]; exact D.hard.out b h3 k⟩
  -- a block of an object that was not lent
  have hfree : ∀ id ob, H1 id = some ob → (∀ j q, g.find j ≠ some (id, q)) → ∀ b ∈ own1 id, ¬ Sc.O b ∧ b ∉ X := fun id ob ho hno b hb => by
    refine ⟨fun hO => ?_, fun hX => ?_⟩
    · obtain ⟨j, o, h1, h2⟩ := hO
      obtain ⟨id', q, ob', e1, e2, e3⟩ := D.sub h1
      have hne : id ≠ id' := fun e => by subst e; exact hno _ _ e1
      exact R1.disj hne ho e2 b hb (e3 b h2)
    · obtain ⟨a, _, _, id', q, ob', e1, e2, e3⟩ := D.from_ b hX
      have hne : id ≠ id' := fun e => by subst e; exact hno _ _ e1
      exact R1.disj hne ho e2 b hb e3
  have hle : I1.le I' := Imm.le_trans D.hard.le R'.kept.le
  -- a place that is given back
  have place : ∀ j q id ob t vx z, g.find j = some (id, q) → H1 id = some ob → c.sig.outS.heapOf u j = some ⟨t, vx, []⟩ → (∀ i ∈ t.refs, (renId g n i).2 = [] ∧ i < 64) → ob.t.set ob.x q (TV.ren (rn g n) ⟨t, vx⟩) = some z →
      ∃ pre post s', (∀ b ∈ pre ++ post, b ∈ own1 id ∧ ¬ Sc.O b) ∧ (pre ++ own' j ++ post).Nodup ∧ TRep w' I' σ2 z.t [σ2 id] z.x (pre ++ own' j ++ post) ∧ ObjPres w σ ob w' σ2 ⟨z.t, z.x, ob.ev ++ [awayAt q t]⟩ id ∧
        Path.lit q = true ∧ spot w' z.t [σ2 id] false none 0 q = some s' ∧ s'.cells = [σ' j] := by
    intro j q id ob t vx z hj hob hout hrf hset
    have hjl := hdom j _ hj
    obtain ⟨oi, hoi⟩ := hinH j hjl
    obtain ⟨_, id', q', ob', v0, s, pre, post, lh, e1, e2, hlit, e4, F, e6, ⟨mm, e7⟩, e8, e9⟩ := D.objs j oi hoi
    rw [hj] at e1
    simp only [Option.some.injEq, Prod.mk.injEq] at e1
    obtain ⟨rfl, rfl⟩ := e1
    rw [hob] at e2
    injection e2 with e2
    subst e2
    have hid := hlt1 _ _ _ hj
    have hnd := R1.rel.nd id ob hob
    have hown := F.own
    rw [hown] at hnd
    obtain ⟨m1, m2, m3⟩ := List.nodup_append.1 hnd
    obtain ⟨m4, m5, m6⟩ := List.nodup_append.1 m1
    have hpp : ∀ b ∈ pre ++ post, b ∉ ouF j := fun b hb hbo => by
      rcases List.mem_append.1 hb with hb | hb
      · exact m6 b hb b hbo rfl
      · exact m3 b (by simp [hbo]) b hb rfl
    have hppo : ∀ b ∈ pre ++ post, b ∈ own1 id := fun b hb => by
      rw [hown]; rcases List.mem_append.1 hb with hb | hb <;> simp [hb]
    have hfr : ∀ b ∈ pre ++ post, ¬ Sc.O b ∧ b ∉ X := fun b hb => by
      refine ⟨fun hO => ?_, fun hX => ?_⟩
      · obtain ⟨j2, o2, h1, h2⟩ := hO
        by_cases hjj : j2 = j
        · subst hjj
          obtain ⟨_, id3, q3, ob3, v3, s3, pre3, post3, lh3, f1, f2, f3, f4, F3, f6, f7, f8, f9⟩ := D.objs j2 o2 h1
          exact hpp b hb (f9.subset h2)
        · obtain ⟨id3, q3, ob3, f1, f2, f3⟩ := D.sub h1
          have hne : id ≠ id3 := fun e => by subst e; exact hjj (D.inj _ _ _ _ _ f1 hj)
          exact R1.disj hne hob f2 b (hppo b hb) (f3 b h2)
      · obtain ⟨a, _, a2, id3, q3, ob3, f1, f2, f3⟩ := D.from_ b hX
        by_cases hjj : a.1 = j
        · rw [hjj] at a2; exact hpp b hb a2
        · have hne : id ≠ id3 := fun e => by subst e; exact hjj (D.inj _ _ _ _ _ f1 hj)
          exact R1.disj hne hob f2 b (hppo b hb) f3
    have hbl : ∀ b ∈ pre ++ post, w'.heap[b]? = w.heap[b]? ∧ ∀ k, I' b k = I1 b k := fun b hb => hkb b (R1.lt_size hob b (hppo b hb)) (hfr b hb).1 (hfr b hb).2
    have hrepj := R'.rel.rep j _ hout
    have hsj : σ' j = σn j := hsig j hjl
    have hrep : TRep w' I' σ2 (TV.ren (rn g n) ⟨t, vx⟩).t s.cells (TV.ren (rn g n) ⟨t, vx⟩).x (own' j) := by
      refine TV.ren_rep (v := ⟨t, vx⟩) (σ := σ') (fun i hi => hσr i (hrf i hi).1 (hrf i hi).2) ?_
      rw [e6, ← hsj]
      exact hrepj
    have hwd : (TV.ren (rn g n) ⟨t, vx⟩).t.width = v0.t.width := by rw [← hrep.len, F.rep.len]
    have hz := F.plug w' I' σ2 _ _ s.cells (own' j) z hwd hrep hset (fun i hi => hσ2 i ((R1.rel.lt id ob hob).2 i hi)) hle (fun b hb k => (hbl b hb).2 k) (fun b hb => blkTo_kept F (hbl b hb).1)
    rw [Nat.sub_zero, splice_one F] at hz
    have hnz : (pre ++ own' j ++ post).Nodup := by
      have hd : ∀ a ∈ own' j, a ∉ pre ++ post := fun a ha hp => by
        rcases R'.owns j _ hout a ha with e | e
        · exact (hfr a hp).1 e
        · have := R1.lt_size hob a (hppo a hp); exact absurd e (by show ¬ w.heap.size ≤ a; omega)
      refine List.nodup_append.2 ⟨List.nodup_append.2 ⟨m4, R'.rel.nd j _ hout, fun a ha b hb e => ?_⟩, m2, fun a ha b hb e => ?_⟩
      · subst e; exact hd a hb (by simp [ha])
      · subst e
        rcases List.mem_append.1 ha with ha | ha
        · exact m3 a (by simp [ha]) a hb rfl
        · exact hd a ha (by simp [hb])
    have hbxs : isBox oi.t = isBox t := by
      obtain ⟨a1, b1, b2, b3⟩ := fillObjs_mem _ _ hoi
      obtain ⟨a2, c1, c2, c3⟩ := fillObjs_mem _ _ hout
      have d1 := nums_mem b1
      have d2 := nums_mem c1
      rw [b2, b3] at d1
      rw [c2, c3] at d2
      exact hs.box j _ _ d1 d2
    have hvb : isBox v0.t = isBox oi.t := by
      cases e : v0.t <;> rw [e] at e7 <;> cases e' : oi.t <;> rw [e'] at e7 <;> simp [Ty.may] at e7 <;> rfl
    have hOP := ObjPres.swap (σ2 := σ2) (t0 := t) (R1.rel.rep id ob hob) (R1.rel.nd id ob hob) F e4 hlit hset hwd (fun b hb => (hbl b hb).1) (hσ2 id hid) hz hnz hrep (ren_box _ t) (by rw [hvb, hbxs]) (fun hh => by
      have hrh := ren_handle (rn g n) t
      have ht : t.handle = true := by rw [← hrh.1]; exact hh
      obtain ⟨g1, g2⟩ := hhk j oi _ hoi hout ht
      obtain ⟨g3, g4⟩ := may_handle e7 g1
      refine ⟨g3, ?_⟩
      show v0.t.hk = (t.ren (rn g n)).hk
      rw [hrh.2, g4, g2])
    obtain ⟨s', f1, f2, _⟩ := plug_spot F e4 hlit hset hwd (fun b hb => (hbl b hb).1) hz hnz
    refine ⟨pre, post, s', fun b hb => ⟨hppo b hb, (hfr b hb).1⟩, hnz, by rw [hσ2 id hid]; exact hz, hOP, hlit, by rw [hσ2 id hid]; exact f1, by rw [f2, e6, ← hsj]⟩
  -- each object behind the call
  have hobj : ∀ id o, H2 id = some o → ∃ ow, TRep w' I' σ2 o.t [σ2 id] o.x ow ∧ ow.Nodup ∧ (∀ b ∈ ow, (b ∈ own1 id ∧ (∃ ob, H1 id = some ob) ∧ ¬ Sc.O b) ∨ ∃ j oj, c.sig.outS.heapOf u j = some oj ∧ rn g n j = id ∧ b ∈ own' j) ∧ id < n + 64 ∧ (∀ i ∈ o.t.refs, i < n + 64) ∧
      (∀ s0, S.H id = some s0 → o.ok true [] 0 = true → σ2 id = S.σ id) ∧ (id < n → ∃ ob, H1 id = some ob ∧ ObjPres w σ ob w' σ2 o id) := by
    intro id o ho
    have hrl : ∀ (t : Ty), (∀ i ∈ t.refs, (renId g n i).2 = [] ∧ i < 64) → ∀ i ∈ (t.ren (rn g n)).refs, i < n + 64 := fun t ht i hi => by
      rw [ren_refs] at hi
      obtain ⟨i0, h1, rfl⟩ := List.mem_map.1 hi
      have := (ht i0 h1).2
      show (renId g n i0).1 < n + 64
      unfold renId
      cases hfi : g.find i0 with
      | none => simp only; omega
      | some y => have := hlt1 i0 y.1 y.2 hfi; simp only; omega
    rcases hH2 id o ho with ⟨a, a1, q, o0, vx, z, a2, a3, a4, a5, rfl⟩ | ⟨a, a1, vx, a2, rfl, a4, rfl⟩ | ⟨a1, a2, a3⟩
    · obtain ⟨pre, post, s', k1, k2, k3, k4, k5, k6, k7⟩ := place a.1 q id o0 a.2 vx z a2 a3 a4 (hrefs a a1) a5
      have hid := hlt1 _ _ _ a2
      have hri : rn g n a.1 = id := by show (renId g n a.1).1 = id; unfold renId; rw [a2]
      refine ⟨_, k3, k2, fun b hb => ?_, by omega, fun i hi => ?_, fun s0 hs0 hok => ?_, fun _ => ⟨o0, a3, k4⟩⟩
      · simp only [List.mem_append] at hb
        rcases hb with (hb | hb) | hb
        · exact .inl ⟨(k1 b (by simp [hb])).1, ⟨o0, a3⟩, (k1 b (by simp [hb])).2⟩
        · exact .inr ⟨a.1, _, a4, hri, hb⟩
        · exact .inl ⟨(k1 b (by simp [hb])).1, ⟨o0, a3⟩, (k1 b (by simp [hb])).2⟩
      · rcases ren_refs_sub a5 i hi with e | e
        · have := (R1.rel.lt id o0 a3).2 i e; omega
        · exact hrl a.2 (hrefs a a1) i e
      · obtain ⟨e1, _, _⟩ := ok_cons hok rfl (Nat.zero_le _)
        rw [hσ2 id hid]
        exact R1.hdl id s0 o0 hs0 a3 (by unfold Obj.ok; exact e1)
    · have hrep := R'.rel.rep a.1 _ a4
      have haj := nums_lt a1
      have hmx := hs.max
      have hri : rn g n a.1 = n + a.1 := by show (renId g n a.1).1 = _; unfold renId; rw [a2]
      have hsg : σ2 (n + a.1) = σ' a.1 := by rw [← hri]; exact hσn a.1 (by omega) a2
      refine ⟨own' a.1, ?_, R'.rel.nd a.1 _ a4, fun b hb => .inr ⟨a.1, _, a4, hri, hb⟩, by omega, fun i hi => hrl a.2 (hrefs a a1) i hi, fun s0 hs0 _ => ?_, fun hlt => ?_⟩
      · refine TV.ren_rep (v := ⟨a.2, vx⟩) (σ := σ') (fun i hi => hσr i (hrefs a a1 i hi).1 (hrefs a a1 i hi).2) ?_
        rw [hsg]; exact hrep
      · have := hS _ _ hs0; omega
      · omega
    · have hid := (R1.rel.lt id o a3).1
      have hno : ∀ j q, g.find j ≠ some (id, q) := fun j q e => by
        have hjl := hdom j _ e
        have : j < c.sig.outs.length := Nat.lt_of_lt_of_le hjl hs.le
        exact a1 (j, c.sig.outs[j]) (mem_nums (by simp)) q e
      have hb1 := hfree id o a3 hno
      have hbl : ∀ b ∈ own1 id, w'.heap[b]? = w.heap[b]? ∧ ∀ k, I' b k = I1 b k := fun b hb => hkb b (R1.lt_size a3 b hb) (hb1 b hb).1 (hb1 b hb).2
      refine ⟨own1 id, ?_, R1.rel.nd id o a3, fun b hb => .inl ⟨hb, ⟨o, a3⟩, (hb1 b hb).1⟩, by omega, fun i hi => by have := (R1.rel.lt id o a3).2 i hi; omega, fun s0 hs0 hok => ?_, fun _ => ⟨o, a3, ?_⟩⟩
      · rw [hσ2 id hid]
        exact (R1.rel.rep id o a3).frame hle hbl fun i hi => hσ2 i ((R1.rel.lt id o a3).2 i hi)
      · rw [hσ2 id hid]; exact R1.hdl id s0 o hs0 a3 hok
      · exact ObjPres.same (R1.rel.rep id o a3) (fun b hb => (hbl b hb).1) (hσ2 id hid)
  let own2 : Own := fun id => open Classical in if h : ∃ o, H2 id = some o then Classical.choose (hobj id _ (Classical.choose_spec h)) else []
  have hown2 : ∀ id o, H2 id = some o → TRep w' I' σ2 o.t [σ2 id] o.x (own2 id) ∧ (own2 id).Nodup ∧ (∀ b ∈ own2 id, (b ∈ own1 id ∧ (∃ ob, H1 id = some ob) ∧ ¬ Sc.O b) ∨ ∃ j oj, c.sig.outS.heapOf u j = some oj ∧ rn g n j = id ∧ b ∈ own' j) := by
    intro id o ho
    have hex : ∃ o, H2 id = some o := ⟨o, ho⟩
    have e : own2 id = Classical.choose (hobj id _ (Classical.choose_spec hex)) := dif_pos hex
    have hspec := Classical.choose_spec (hobj id _ (Classical.choose_spec hex))
    have heq : Classical.choose hex = o := by
      have := ho.symm.trans (Classical.choose_spec hex)
      injection this with this
      exact this.symm
    rw [e]
    refine ⟨?_, hspec.2.1, hspec.2.2.1⟩
    have h1 := hspec.1
    have key : ∀ o' (e : o' = o) ow, TRep w' I' σ2 o'.t [σ2 id] o'.x ow → TRep w' I' σ2 o.t [σ2 id] o.x ow := fun o' e ow h => by subst e; exact h
    exact key _ heq _ h1
  have hrninj : ∀ i j, rn g n i = rn g n j → (∃ o, c.sig.outS.heapOf u i = some o) → (∃ o, c.sig.outS.heapOf u j = some o) → i = j := fun i j e hi hj => by
    have e : (renId g n i).1 = (renId g n j).1 := e
    unfold renId at e
    cases hfi : g.find i with
    | none =>
      cases hfj : g.find j with
      | none => rw [hfi, hfj] at e; simp only at e; omega
      | some y => rw [hfi, hfj] at e; have := hlt1 j y.1 y.2 hfj; simp only at e; omega
    | some y =>
      cases hfj : g.find j with
      | none => rw [hfi, hfj] at e; have := hlt1 i y.1 y.2 hfi; simp only at e; omega
      | some y2 =>
        rw [hfi, hfj] at e
        simp only at e
        exact D.inj i j y.1 y.2 y2.2 hfi (by rw [hfj, e])
  have hInv : Inv S (n + 64) w' I' σ2 H2 own2 [] := by
    refine ⟨⟨R'.rel.imm, fun id o ho => (hown2 id o ho).1, fun id o ho => (hown2 id o ho).2.1, fun i j oi oj hij hi hj b hb hb' => ?_, fun id o ho => ?_⟩, D.kept.trans R'.kept fun b hb => ?_, fun id o ho b hb => ?_, by simp, by simp, by simp, fun id s0 o hs0 ho hok => ?_⟩
    · rcases (hown2 i oi hi).2.2 b hb with ⟨e1, ⟨ob1, e2⟩, e3⟩ | ⟨j1, o1, e1, e2, e3⟩ <;> rcases (hown2 j oj hj).2.2 b hb' with ⟨f1, ⟨ob2, f2⟩, f3⟩ | ⟨j2, o2, f1, f2, f3⟩
      · exact R1.disj hij e2 f2 b e1 f1
      · rcases R'.owns j2 o2 f1 b f3 with h | h
        · exact e3 h
        · have := R1.lt_size e2 b e1; exact absurd h (by show ¬ w.heap.size ≤ b; omega)
      · rcases R'.owns j1 o1 e1 b e3 with h | h
        · exact f3 h
        · have := R1.lt_size f2 b f1; exact absurd h (by show ¬ w.heap.size ≤ b; omega)
      · by_cases hjj : j1 = j2
        · subst hjj; rw [e2] at f2; exact hij f2
        · exact R'.disj hjj e1 f1 b e3 f3
    · obtain ⟨ow, _, _, _, k1, k2, _⟩ := hobj id o ho; exact ⟨k1, k2⟩
    · obtain ⟨j, o, h1, h2⟩ := hb; exact D.owns h1 b h2
    · rcases (hown2 id o ho).2.2 b hb with ⟨e1, ⟨ob1, e2⟩, e3⟩ | ⟨j1, o1, e1, e2, e3⟩
      · exact R1.owns id ob1 e2 b e1
      · rcases R'.owns j1 o1 e1 b e3 with ⟨j, o, h1, h2⟩ | h
        · exact D.owns h1 b h2
        · exact .inr (Nat.le_trans R1.kept.size h)
    · obtain ⟨ow, _, _, _, _, _, k1, _⟩ := hobj id o ho; exact k1 s0 hs0 hok
  have hPres : Pres n w I σ H w' I' σ2 H2 := by
    refine D.ghost.pres.trans ⟨hle, fun id ob' hid hob' => ?_, fun id hid _ => hσ2 id hid, fun id _ _ hid _ _ _ => hσ2 id hid⟩
    obtain ⟨ow, _, _, _, _, _, _, k1⟩ := hobj id ob' hob'
    exact k1 hid
  have hLent : Lent w' σ' σ2 (c.sig.outS.heapOf u) H2 g n c.sig.outs.length := by
    intro j hj ob hob
    obtain ⟨oj, hoj⟩ := heapOf_has (s := c.sig.outS) (x := u) (j := j).2 (List.any_eq_true.2 ⟨(j, c.sig.outs[j]), mem_nums (by simp), by simp⟩)
    have hrj : ∀ id, rn g n j = id → g.find j = none → id = n + j := fun id e hf => by
      have e : (renId g n j).1 = id := e
      unfold renId at e; rw [hf] at e; exact e.symm
    rcases hH2 _ ob hob with ⟨a, a1, q, o0, vx, z, a2, a3, a4, a5, rfl⟩ | ⟨a, a1, vx, a2, a3, a4, rfl⟩ | ⟨a1, a2, a3⟩
    · have hja : g.find j = some (rn g n j, q) := by
        cases hfj : g.find j with
        | none => have := hrj _ rfl hfj; have h2 := hlt1 _ _ _ a2; omega
        | some y =>
          have e : rn g n j = y.1 := by show (renId g n j).1 = _; unfold renId; rw [hfj]
          have : a.1 = j := D.inj a.1 j y.1 q y.2 (by rw [← e]; exact a2) hfj
          rw [this, hfj] at a2
          exact a2
      have haj : a.1 = j := D.inj _ _ _ _ _ a2 hja
      subst haj
      obtain ⟨pre, post, s', k1, k2, k3, k4, k5, k6, k7⟩ := place a.1 q _ o0 a.2 vx z a2 a3 a4 (hrefs a a1) a5
      have hq : (renId g n a.1).2 = q := by unfold renId; rw [hja]
      rw [hq]
      exact ⟨_, s', a4, rfl, k5, get_set k5 a5, k6, k7⟩
    · have hfj : g.find j = none := by
        cases hfj : g.find j with
        | none => rfl
        | some y =>
          have e : rn g n j = y.1 := by show (renId g n j).1 = _; unfold renId; rw [hfj]
          have := hlt1 j y.1 y.2 hfj
          omega
      have haj : a.1 = j := by have := hrj _ rfl hfj; omega
      subst haj
      have hq : (renId g n a.1).2 = [] := by unfold renId; rw [hfj]
      have hmx := hs.max
      rw [hq]
      refine ⟨_, ⟨false, none, 0, [σ2 (rn g n a.1)]⟩, a4, rfl, rfl, by simp [Ty.get], spot_nil _ _ _ _ _ _, ?_⟩
      simp only
      rw [hσn a.1 (by omega) hfj]
    · exfalso
      cases hfj : g.find j with
      | none => exact a2 (j, c.sig.outs[j]) (mem_nums (by simp)) hfj (hrj _ rfl hfj)
      | some y =>
        have e : rn g n j = y.1 := by show (renId g n j).1 = _; unfold renId; rw [hfj]
        exact a1 (j, c.sig.outs[j]) (mem_nums (by simp)) y.2 (by rw [hfj, e])
  have hres : ∀ j ∈ (c.sig.outS.tmpsOf u 0).ids, j < c.sig.outs.length := fun j hj => by
    obtain ⟨v', h1, h2⟩ := fillVals_ids _ _ 0 j hj
    simp only [Sig.outS, List.mem_singleton] at h1
    subst h1
    exact hs.res j h2
  refine ⟨n + 64, _, I', σ2, H2, own2, [], by omega, h, hInv, hPres, (renA_ok hLent _ hres).2.2 v hv, fun id hid => ?_⟩
  obtain ⟨j, h1, rfl⟩ := renA_ids _ id hid
  have hjl := hres j h1
  have hmx := hs.max
  show (renId g n j).1 < n + 64
  unfold renId
  cases hfj : g.find j with
  | none => simp only; omega
  | some y => have := hlt1 j y.1 y.2 hfj; simp only; omega
end
end Go.Ev

