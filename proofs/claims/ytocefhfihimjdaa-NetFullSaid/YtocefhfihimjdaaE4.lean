/- A way to show what code computes: part 4: no condition. -/
import Derived.Test.YtocefhfihimjdaaE3
set_option linter.unusedVariables false
namespace Go.Ev

theorem get_append : ∀ (p q : Path) (t : Ty) (x : t.den), t.get x (p ++ q) = (t.get x p).bind fun v => v.t.get v.x q := by
  intro p
  induction p with
  | nil => intro q t x; simp [Ty.get]
  | cons s p ih => intro q t x; cases s <;> cases t <;> simp only [List.cons_append, Ty.get, Option.bind_none] <;> exact ih ..

theorem inb_append : ∀ (p q : Path) (t : Ty) (x : t.den) (v : TV), t.get x p = some v → (Inb t x (p ++ q) ↔ Inb t x p ∧ Inb v.t v.x q) := by
  intro p
  induction p with
  | nil => intro q t x v h; simp only [Ty.get, Option.some.injEq] at h; subst h; simp [inb_nil]
  | cons s p ih =>
    intro q t x v h
    cases s <;> cases t <;> simp only [Ty.get, reduceCtorEq] at h <;> simp only [List.cons_append, Inb] <;> rw [ih q _ _ v h] <;> simp only [and_assoc]

theorem spot_append (w : World) : ∀ (p q : Path) (t : Ty) (x : t.den) (v : TV) (cs : List Value) (h : Bool) (b : Option Nat) (o : Nat), t.get x p = some v →
    spot w t cs h b o (p ++ q) = (spot w t cs h b o p).bind fun s => spot w v.t s.cells s.hop s.blk s.off q := by
  intro p
  induction p with
  | nil => intro q t x v cs h b o hg; simp only [Ty.get, Option.some.injEq] at hg; subst hg; simp [spot_nil]
  | cons s p ih =>
    intro q t x v cs h b o hg
    cases s <;> cases t <;> simp only [Ty.get, reduceCtorEq] at hg <;> simp only [List.cons_append, spot]
    case o.one => exact ih _ _ _ _ _ _ _ _ hg
    case l.pair => exact ih _ _ _ _ _ _ _ _ hg
    case r.pair => exact ih _ _ _ _ _ _ _ _ hg
    case «at».arr => exact ih _ _ _ _ _ _ _ _ hg
    case «at».vec =>
      cases hdrBlk w cs with
      | none => rfl
      | some e => exact ih _ _ _ _ _ _ _ _ hg
    case d.box =>
      cases hdrBlk w cs with
      | none => rfl
      | some e => exact ih _ _ _ _ _ _ _ _ hg

theorem field_ok : ∀ (q : Path) (t : Ty) (k : Nat) (ut : Ty), Ty.field t q = some (k, ut) → ∀ (x : t.den), (∃ v, t.get x q = some v ∧ v.t = ut) ∧ Inb t x q ∧
    ∀ (w : World) (cs : List Value) (h : Bool) (b : Option Nat) (o : Nat), ∃ cs', spot w t cs h b o q = some ⟨h, b, o + k, cs'⟩ := by
  intro q
  induction q with
  | nil =>
    intro t k ut h x
    simp only [Ty.field, Option.some.injEq, Prod.mk.injEq] at h
    obtain ⟨rfl, rfl⟩ := h
    exact ⟨⟨⟨t, x⟩, by simp [Ty.get], rfl⟩, inb_nil _ _, fun w cs h b o => ⟨cs, by rw [spot_nil]; rfl⟩⟩
  | cons s q ih =>
    intro t k ut h x
    cases s <;> cases t <;> simp only [Ty.field, reduceCtorEq, Option.map_eq_some_iff, Prod.mk.injEq] at h
    case o.one t =>
      obtain ⟨h1, h2, h3⟩ := ih t k ut h x
      exact ⟨by simpa [Ty.get] using h1, h2, fun w cs h b o => by simp only [spot]; exact h3 ..⟩
    case l.pair a c =>
      obtain ⟨h1, h2, h3⟩ := ih a k ut h x.1
      exact ⟨by simpa [Ty.get] using h1, h2, fun w cs h b o => by simp only [spot]; exact h3 ..⟩
    case r.pair a c =>
      obtain ⟨⟨k', t'⟩, h0, rfl, rfl⟩ := h
      obtain ⟨h1, h2, h3⟩ := ih c k' t' h0 x.2
      refine ⟨by simpa [Ty.get] using h1, h2, fun w cs h b o => ?_⟩
      obtain ⟨cs', e⟩ := h3 w (cs.drop a.width) h b (o + a.width)
      exact ⟨cs', by simp only [spot]; rw [e]; simp; omega⟩

section
variable {S : Start} {n : Nat} {w : World} {I : Imm} {σ : Nat → Value} {H : Heap} {own : Own} {loose : List Nat}

/-- Where a pointer leads. -/
theorem place_ok (R : Inv S n w I σ H own loose) {a : AV} {pl : Place} (h : H.place a = some pl) {cs : List Value} (hc : AvC w I σ H a cs) :
    H pl.id = some pl.o ∧ pl.o.t.get pl.o.x pl.p = some pl.v ∧ Inb pl.o.t pl.o.x pl.p ∧ pl.id ∈ a.ids ∧
    ∃ b o s ou pre post lh, cs = [.pointer (some ⟨b, o, none⟩)] ∧ Focus w I σ pl.o.t [σ pl.id] pl.o.x (own pl.id) pl.p pl.v.t pl.v.x false none 0 s ou pre post lh ∧ s.blk = some b ∧ s.off = o := by
  cases a with
  | ptr id p q off ver =>
    simp only [Heap.place, Option.bind_eq_some_iff] at h
    obtain ⟨⟨ob, u⟩, h1, h⟩ := h
    obtain ⟨g1, g2, g3⟩ := heap_at h1
    simp only at h
    split at h
    · rename_i k ut hf
      split at h
      · rename_i hk
        simp only [Option.map_eq_some_iff] at h
        obtain ⟨v, h2, rfl⟩ := h
        obtain ⟨b, o, base, rfl, e1, h3⟩ := hc
        obtain ⟨hi, s, hs, hs1, hs2⟩ := (h3 ob g1).2 g2 u g3
        obtain ⟨⟨v', hv', ht⟩, hi2, hsp⟩ := field_ok q u.t k ut hf u.x
        rw [h2] at hv'
        injection hv' with hv'
        subst hv'
        have hg : ob.t.get ob.x (p ++ q) = some v := by rw [get_append, g3]; exact h2
        have hib : Inb ob.t ob.x (p ++ q) := (inb_append p q _ _ u g3).2 ⟨hi, hi2⟩
        obtain ⟨s', ou, pre, post, lh, F⟩ := focus (p ++ q) ob.t [σ id] ob.x (own id) v.t v.x false none 0 (R.rel.rep id ob g1) (R.rel.nd id ob g1) hg hib
        have hss := F.spot
        rw [spot_append w p q _ _ u _ _ _ _ g3, hs] at hss
        obtain ⟨cs', hsp⟩ := hsp w s.cells s.hop s.blk s.off
        simp only [Option.bind_some, hsp, Option.some.injEq] at hss
        refine ⟨g1, hg, hib, by simp [AV.ids], b, o, s', ou, pre, post, lh, rfl, F, ?_, ?_⟩
        · rw [← hss]; exact hs1
        · rw [← hss]; simp only; rw [hs2, e1]; simp at hk; omega
      · simp at h
    · simp at h
  | _ => simp [Heap.place] at h

theorem get_one (t : Ty) (id ver : Nat) (x : t.den) (p : Path) : isT (AV.get id ver t x p) = false ∧ ((AV.get id ver t x p).agg = some t.isAgg ∨ (AV.get id ver t x p).agg = none) := by
  cases t <;> simp only [AV.get] <;> first | exact ⟨rfl, .inl rfl⟩ | exact ⟨rfl, .inr rfl⟩ | (split <;> first | exact ⟨rfl, .inl rfl⟩ | exact ⟨rfl, .inr rfl⟩)

/-- What is read at a place. -/
theorem get_ok (R : Inv S n w I σ H own loose) {id : Nat} {ob : Obj} (hob : H id = some ob) : ∀ (t : Ty) (x : t.den) (p : Path) (s : Spot) (ou : List Nat), ob.t.get ob.x p = some ⟨t, x⟩ → Inb ob.t ob.x p →
    spot w ob.t [σ id] false none 0 p = some s → TRep w I σ t s.cells x ou → AvC w I σ H (AV.get id ob.ev.length t x p) s.cells ∧ ∀ j ∈ (AV.get id ob.ev.length t x p).ids, j < n := by
  intro t
  have hid : id < n := (R.rel.lt id ob hob).1
  induction t with
  | int k => intro x p s ou hg hi hs hr; exact ⟨⟨rfl, rfl, hr.2⟩, by simp [AV.get, AV.ids]⟩
  | bool => intro x p s ou hg hi hs hr; exact ⟨⟨rfl, rfl, hr.2⟩, by simp [AV.get, AV.ids]⟩
  | str => intro x p s ou hg hi hs hr; exact ⟨⟨rfl, rfl, hr.2⟩, by simp [AV.get, AV.ids]⟩
  | unit => intro x p s ou hg hi hs hr; exact ⟨⟨rfl, rfl, hr.2⟩, by simp [AV.get, AV.ids]⟩
  | one t ih =>
    intro x p s ou hg hi hs hr
    simp only [AV.get]
    split
    · rename_i hp
      have := TRep.pure_ow (t := .one t) hp hr
      subst this
      exact ⟨⟨hp, hr⟩, by simp [AV.ids]⟩
    · exact ih x (p ++ [.o]) s ou (by rw [get_append, hg]; simp [Ty.get]) ((inb_append p [.o] _ _ _ hg).2 ⟨hi, inb_nil _ _⟩) (by rw [spot_append w p [.o] _ _ _ _ _ _ _ hg, hs]; simp [spot]) hr
  | pair a b iha ihb =>
    intro x p s ou hg hi hs hr
    simp only [AV.get]
    split
    · rename_i hp
      have := TRep.pure_ow (t := .pair a b) hp hr
      subst this
      exact ⟨⟨hp, hr⟩, by simp [AV.ids]⟩
    · obtain ⟨c1, c2, o1, o2, hcs, rfl, h1, h2⟩ := hr
      have ha := iha x.1 (p ++ [.l]) ⟨s.hop, s.blk, s.off, c1⟩ o1 (by rw [get_append, hg]; simp [Ty.get]) ((inb_append p [.l] _ _ _ hg).2 ⟨hi, inb_nil _ _⟩)
        (by rw [spot_append w p [.l] _ _ _ _ _ _ _ hg, hs]; simp only [Option.bind_some, spot, spot_nil]; rw [hcs, seg_l h1.len]) h1
      have hb := ihb x.2 (p ++ [.r]) ⟨s.hop, s.blk, s.off + a.width, c2⟩ o2 (by rw [get_append, hg]; simp [Ty.get]) ((inb_append p [.r] _ _ _ hg).2 ⟨hi, inb_nil _ _⟩)
        (by rw [spot_append w p [.r] _ _ _ _ _ _ _ hg, hs]; simp only [Option.bind_some, spot, spot_nil]; rw [hcs, seg_r h1.len]) h2
      refine ⟨⟨c1, c2, hcs, ha.1, hb.1⟩, fun j hj => ?_⟩
      simp only [AV.ids, List.mem_append] at hj
      rcases hj with hj | hj
      · exact ha.2 j hj
      · exact hb.2 j hj
  | arr k t _ =>
    intro x p s ou hg hi hs hr
    simp only [AV.get]
    split
    · rename_i hp
      have := TRep.pure_ow (t := .arr k t) hp hr
      subst this
      exact ⟨⟨hp, hr⟩, by simp [AV.ids]⟩
    · exact ⟨trivial, by simp [AV.ids]⟩
  | list t _ =>
    intro x p s ou hg hi hs hr
    simp only [AV.get]
    split
    · rename_i hp
      have := TRep.pure_ow (t := .list t) hp hr
      subst this
      exact ⟨⟨hp, hr⟩, by simp [AV.ids]⟩
    · exact ⟨trivial, by simp [AV.ids]⟩
  | vec sl t _ =>
    intro x p s ou hg hi hs hr
    obtain ⟨a, cap, hcs, _⟩ := hr
    refine ⟨⟨a, _, cap, t.width, hcs, fun ob' hob' => ?_⟩, by simp [AV.get, AV.ids, hid]⟩
    rw [hob] at hob'; injection hob' with hob'; subst hob'
    refine ⟨Nat.le_refl _, fun _ u hu hh => ?_⟩
    rw [hg] at hu; injection hu with hu; subst hu
    exact ⟨hi, rfl, s, hs, hcs⟩
  | map k v _ _ => intro x p s ou hg hi hs hr; exact hr.elim
  | box t _ =>
    intro x p s ou hg hi hs hr
    obtain ⟨b, es, o1, hcs, ⟨eid, hb⟩, _, _, _⟩ := hr
    refine ⟨⟨b, 0, 0, hcs, rfl, fun ob' hob' => ?_⟩, by simp [AV.get, AV.ids, hid]⟩
    rw [hob] at hob'; injection hob' with hob'; subst hob'
    refine ⟨Nat.le_refl _, fun _ u hu => ⟨(inb_append p [.d] _ _ _ hg).2 ⟨hi, inb_nil _ _⟩, ⟨true, some b, 0, es.toList⟩, ?_, rfl, rfl⟩⟩
    rw [spot_append w p [.d] _ _ _ _ _ _ _ hg, hs]
    simp only [Option.bind_some, spot, hcs, hdrBlk, hb, spot_nil]
  | ref j =>
    intro x p s ou hg hi hs hr
    obtain ⟨_, a, ha, hcs, hsj⟩ := hr
    obtain ⟨ab, ao, as⟩ := a
    simp only at ha
    subst ha
    refine ⟨⟨ab, ao, ao, hcs, by omega, fun ob' hob' => ⟨Nat.zero_le _, fun _ u hu => ?_⟩⟩, fun i hi => ?_⟩
    · obtain ⟨ot, ox, oe⟩ := ob'
      cases ot with
      | box t =>
        obtain ⟨b0, es, o1, e1, ⟨eid, hb⟩, _, _, _⟩ := R.rel.rep j _ hob'
        simp only [List.cons.injEq, and_true] at e1
        rw [hsj] at e1
        simp only [Value.pointer.injEq, Option.some.injEq, Addr.mk.injEq, and_true] at e1
        obtain ⟨rfl, rfl⟩ := e1
        refine ⟨inb_nil _ _, ⟨true, some ab, 0, es.toList⟩, ?_, rfl, rfl⟩
        simp only [spot, hsj, hdrBlk, hb, Option.bind_some, spot_nil]
      | _ => simp [Ty.get] at hu
    · simp [AV.get, AV.ids] at hi
      subst hi
      exact (R.rel.lt id ob hob).2 i (get_refs hg i (by simp [Ty.refs]))
  | nil => intro x p s ou hg hi hs hr; exact ⟨hr.2, by simp [AV.get, AV.ids]⟩
  | hole k => intro x p s ou hg hi hs hr; exact ⟨trivial, by simp [AV.get, AV.ids]⟩
end

/-! ### Runs over types and cells -/
theorem run_und {P : Program} {T : TypeId} {d : TypeDesc} (h : P.underlying T = some d) (w : World) : (underlying T).run P w = .ok d w := by
  simp [underlying, h]
theorem run_info {P : Program} {T : TypeId} {i : TypeInfo} (h : P.info? T = some i) (w : World) : (typeInfo T).run P w = .ok i w := by
  simp [typeInfo, h]
theorem run_sz {P : Program} {T : TypeId} {i : TypeInfo} (h : P.info? T = some i) (w : World) : (sizeOf T).run P w = .ok i.size w := by
  simp [sizeOf, run_info h]

theorem run_agg {P : Program} {T : TypeId} {b : Bool} (h : isAggT P T = some b) (w : World) : (isAgg T).run P w = .ok b w := by
  unfold isAggT at h
  cases hd : P.underlying T with
  | none => rw [hd] at h; simp at h
  | some d =>
    rw [hd] at h
    simp only [isAgg, Sem.run_bind, run_und hd, Result.andThen_ok]
    cases d <;> simp at h <;> subst h <;> rfl

theorem cellsOk_ok {P : Program} {T : TypeId} {t : Ty} (h : cellsOk P T t = true) : t.isHole = false ∧ (∃ i, P.info? T = some i ∧ i.size = t.width) ∧ isAggT P T = some t.isAgg := by
  unfold cellsOk at h
  simp only [Bool.and_eq_true, beq_iff_eq, Bool.not_eq_true'] at h
  obtain ⟨⟨h1, h2⟩, h3⟩ := h
  refine ⟨h1, ?_, h3⟩
  split at h2
  · rename_i i hi; exact ⟨i, hi, by simpa using h2⟩
  · simp at h2

theorem addr_add (b o j : Nat) : (⟨b, o, none⟩ : Addr).add j = ⟨b, o + j, none⟩ := by
  unfold Addr.add
  split
  · rename_i h; simp [h]
  · rfl

theorem run_loadCellsFrom (P : Program) (w : World) (b o : Nat) : ∀ (cs : List Value) (i : Nat) (acc : Array Value), (∀ j v, cs[j]? = some v → w.cell? ⟨b, o + i + j, none⟩ = some v) →
    (loadCellsFrom ⟨b, o, none⟩ i cs.length acc).run P w = .ok (acc ++ cs.toArray) w := by
  intro cs
  induction cs with
  | nil => intro i acc _; simp [loadCellsFrom]
  | cons c cs ih =>
    intro i acc h
    simp only [List.length_cons, loadCellsFrom, Sem.run_bind, addr_add, run_load]
    have h0 : w.cell? ⟨b, o + i, none⟩ = some c := h 0 c rfl
    rw [h0]
    simp only [Result.andThen_ok]
    rw [ih (i + 1) (acc.push c) fun j v hv => by have := h (j + 1) v (by simpa using hv); rwa [show o + (i + 1) + j = o + i + (j + 1) from by omega]]
    simp

theorem run_loadCells (P : Program) (w : World) (b o : Nat) (cs : List Value) (h : ∀ j v, cs[j]? = some v → w.cell? ⟨b, o + j, none⟩ = some v) :
    (loadCells ⟨b, o, none⟩ cs.length).run P w = .ok cs.toArray w := by
  have := run_loadCellsFrom P w b o cs 0 #[] (by simpa using h)
  simpa [loadCells] using this

theorem width_one {t : Ty} (h : t.isAgg = false) (hh : t.isHole = false) : t.width = 1 := by cases t <;> simp_all [Ty.isAgg, Ty.isHole, Ty.width]

/-- A value of some cells, as a type has it. -/
def OfCells (t : Ty) (cs : List Value) (v : Value) : Prop := (t.isAgg = true → v = .agg cs.toArray) ∧ (t.isAgg = false → cs = [v])

theorem OfCells.cells {t : Ty} {cs : List Value} {v : Value} (h : OfCells t cs v) (h1 : ∀ c ∈ cs, c.oneCell' = true) : v.cells.toList = cs := by
  cases ht : t.isAgg with
  | true => rw [h.1 ht]; rfl
  | false =>
    have := h.2 ht
    subst this
    have := h1 v (by simp)
    cases v <;> simp_all [Value.cells, Value.oneCell']

theorem run_loadVar {P : Program} {T : TypeId} {t : Ty} (h : cellsOk P T t = true) {w : World} {b o : Nat} {cs : List Value} (hl : cs.length = t.width) (hc : ∀ j v, cs[j]? = some v → w.cell? ⟨b, o + j, none⟩ = some v) :
    ∃ v, (loadVar T ⟨b, o, none⟩).run P w = .ok v w ∧ OfCells t cs v := by
  obtain ⟨h1, ⟨i, h2, h3⟩, h4⟩ := cellsOk_ok h
  cases ht : t.isAgg with
  | true =>
    rw [ht] at h4
    refine ⟨.agg cs.toArray, ?_, fun _ => rfl, fun e => by rw [ht] at e; simp at e⟩
    simp only [loadVar, Sem.run_bind, run_agg h4, Result.andThen_ok, if_true, run_sz h2, h3, ← hl, run_loadCells P w b o cs hc, Sem.run_pure]
  | false =>
    rw [ht] at h4
    have hw := width_one ht h1
    rw [hw] at hl
    match cs, hl with
    | [v], _ =>
      refine ⟨v, ?_, fun e => by rw [ht] at e; simp at e, fun _ => rfl⟩
      have := hc 0 v rfl
      simp only [loadVar, Sem.run_bind, run_agg h4, Result.andThen_ok, Bool.false_eq_true, if_false, run_load]
      have this' : w.cell? ⟨b, o, none⟩ = some v := this
      rw [this']

theorem blk_cells {w : World} {b o : Nat} {es : Array Value} {cs : List Value} {k : Nat} (h : Blk w b es) (hc : cs = (es.toList.drop o).take k) : ∀ j v, cs[j]? = some v → w.cell? ⟨b, o + j, none⟩ = some v := by
  intro j v hv
  subst hc
  rw [List.getElem?_take] at hv
  split at hv
  · rw [List.getElem?_drop] at hv
    exact cell_blk h hv
  · simp at hv

end Go.Ev

namespace Go.Ev

theorem splice_cons {α : Type} {l : List α} {k : Nat} {v : α} {vs : List α} (h : k + 1 + vs.length ≤ l.length) : splice (l.set k v) (k + 1) vs = splice l k (v :: vs) := by
  simp only [splice, List.length_cons]
  have h1 : (l.set k v).take (k + 1) = l.take k ++ [v] := by
    rw [List.take_set, List.take_succ_eq_append_getElem (by omega), List.set_append, if_neg (by simp; omega)]
    congr 1
    rw [List.length_take, Nat.min_eq_left (by omega), Nat.sub_self, List.set_cons_zero]
  rw [h1, List.drop_set_of_lt (by omega), show k + 1 + vs.length = k + (vs.length + 1) from by omega]
  simp

theorem run_storeCells (P : Program) : ∀ (vs : List Value) (w : World) (b o i : Nat) (es : Array Value), Blk w b es → o + i + vs.length ≤ es.size → (∀ v ∈ vs, v.oneCell' = true) →
    ∃ w' es', (storeCells ⟨b, o, none⟩ vs i).run P w = .ok () w' ∧ Blk w' b es' ∧ es'.toList = splice es.toList (o + i) vs ∧ (∀ c, c ≠ b → w'.heap[c]? = w.heap[c]?) ∧
      w'.heap.size = w.heap.size ∧ w'.os = w.os ∧ w'.tape = w.tape ∧ w'.output = w.output := by
  intro vs
  induction vs with
  | nil => intro w b o i es hb _ _; exact ⟨w, es, by simp [storeCells], hb, by simp [splice], fun _ _ => rfl, rfl, rfl, rfl, rfl⟩
  | cons v vs ih =>
    intro w b o i es hb hl h1
    have hb0 := hb
    obtain ⟨eid, hb⟩ := hb
    simp only [List.length_cons] at hl
    have hcell : w.cell? ⟨b, o + i, none⟩ = some (es[o + i]'(by omega)) := by
      simp only [World.cell?, hb]; simp
    have hfr : w.frozen? ⟨b, o + i, none⟩ = false := by simp [World.frozen?, hb]
    have hb1 : Blk (w.setCell ⟨b, o + i, none⟩ v) b (es.setIfInBounds (o + i) v) := by
      refine ⟨eid, ?_⟩
      have hlt : b < w.heap.size := (Array.getElem?_eq_some_iff.1 hb).1
      simp [World.setCell, Array.getElem?_modify, hb]
    obtain ⟨w', es', k1, k2, k3, k4, k5, k6, k7, k8⟩ := ih (w.setCell ⟨b, o + i, none⟩ v) b o (i + 1) _ hb1 (by simp; omega) (fun x hx => h1 x (by simp [hx]))
    refine ⟨w', es', ?_, k2, ?_, fun c hc => ?_, by rw [k5]; simp [World.setCell], by rw [k6]; rfl, by rw [k7]; rfl, by rw [k8]; rfl⟩
    · simp only [storeCells, Sem.run_bind, addr_add]
      rw [run_store P w _ v .plain (h1 v (by simp)), hcell]
      simp only [hfr, Bool.false_eq_true, if_false, Result.andThen_ok]
      exact k1
    · rw [k3, Array.toList_setIfInBounds, show o + (i + 1) = o + i + 1 from by omega, splice_cons (by simp; omega)]
    · rw [k4 c hc, RowKit.Below.heap_setCell _ _ _ _ hc]

theorem run_storeVar {P : Program} {T : TypeId} {t : Ty} (h : cellsOk P T t = true) {w : World} {b o : Nat} {es : Array Value} {v : Value} (hv : v.cells.toList.length = t.width) (hb : Blk w b es) (ho : o + t.width ≤ es.size)
    (h1 : ∀ c ∈ v.cells.toList, c.oneCell' = true) :
    ∃ w' es', (storeVar T ⟨b, o, none⟩ v).run P w = .ok () w' ∧ Blk w' b es' ∧ es'.toList = splice es.toList o v.cells.toList ∧ (∀ c, c ≠ b → w'.heap[c]? = w.heap[c]?) ∧
      w'.heap.size = w.heap.size ∧ w'.os = w.os ∧ w'.tape = w.tape ∧ w'.output = w.output := by
  obtain ⟨_, ⟨i, h2, h3⟩, _⟩ := cellsOk_ok h
  obtain ⟨w', es', k1, k2, k3, k4⟩ := run_storeCells P v.cells.toList w b o 0 es hb (by omega) h1
  refine ⟨w', es', ?_, k2, k3, k4⟩
  have : ¬ v.cells.size ≠ t.width := by simpa using hv
  simp only [storeVar, Sem.run_bind, run_sz h2, Result.andThen_ok, h3, if_neg this]
  exact k1

section
variable {S : Start} {n : Nat} {w : World} {I : Imm} {σ : Nat → Value} {H : Heap} {own : Own} {loose : List Nat}

theorem cell_other {w w' : World} {c j : Nat} (h : w'.heap[c]? = w.heap[c]?) : w'.cell? ⟨c, j, none⟩ = w.cell? ⟨c, j, none⟩ := by simp only [World.cell?, h]

theorem splice_get {α : Type} {l m : List α} {k j : Nat} (h : k + m.length ≤ l.length) (hj : j < k ∨ k + m.length ≤ j) : (splice l k m)[j]? = l[j]? := by
  unfold splice
  rcases hj with hj | hj
  · rw [List.append_assoc, List.getElem?_append_left (by simp; omega), List.getElem?_take, if_pos hj]
  · rw [List.getElem?_append_right (by simp; omega), List.getElem?_drop]
    congr 1
    simp; omega

/-- No fixed cell stands where something may be put. -/
theorem focus_free : ∀ (p : Path) (t : Ty) (cs : List Value) (x : t.den) (ow : List Nat) (u : Ty) (y : u.den) (h : Bool) (b : Option Nat) (o : Nat) (s : Spot) (u' z : TV),
    TRep w I σ t cs x ow → ow.Nodup → t.get x p = some ⟨u, y⟩ → Inb t x p → t.set x p u' = some z → spot w t cs h b o p = some s →
    (s.blk = b ∧ s.hop = h ∧ o ≤ s.off ∧ s.off + u.width ≤ o + t.width) ∨ (s.hop = true ∧ ∃ c, s.blk = some c ∧ ∀ j, I c j = none) := by
  intro p
  induction p with
  | nil =>
    intro t cs x ow u y h b o s u' z hr hn hg hi hs hsp
    simp only [Ty.get, Option.some.injEq, TV.mk.injEq] at hg
    obtain ⟨rfl, _⟩ := hg
    rw [spot_nil] at hsp
    simp only [Option.some.injEq] at hsp
    subst hsp
    exact .inl ⟨rfl, rfl, Nat.le_refl _, Nat.le_refl _⟩
  | cons st p ih =>
    intro t cs x ow u y h b o s u' z hr hn hg hi hs hsp
    cases st <;> cases t <;> simp only [Ty.get, reduceCtorEq] at hg <;> simp only [Ty.set, Option.bind_eq_some_iff, Option.some.injEq] at hs
    case o.one t => obtain ⟨z', h1, _⟩ := hs; simp only [spot] at hsp; exact ih t cs x ow u y h b o s u' z' hr hn hg hi h1 hsp
    case l.pair a c =>
      obtain ⟨z', h1, _⟩ := hs
      obtain ⟨c1, c2, o1, o2, rfl, rfl, r1, r2⟩ := hr
      simp only [spot] at hsp; rw [seg_l r1.len] at hsp
      rcases ih a c1 x.1 o1 u y h b o s u' z' r1 (List.nodup_append.1 hn).1 hg hi h1 hsp with ⟨k1, k2, k3, k4⟩ | k
      · exact .inl ⟨k1, k2, k3, by simp only [Ty.width]; omega⟩
      · exact .inr k
    case r.pair a c =>
      obtain ⟨z', h1, _⟩ := hs
      obtain ⟨c1, c2, o1, o2, rfl, rfl, r1, r2⟩ := hr
      simp only [spot] at hsp; rw [seg_r r1.len] at hsp
      rcases ih c c2 x.2 o2 u y h b _ s u' z' r2 (List.nodup_append.1 hn).2.1 hg hi h1 hsp with ⟨k1, k2, k3, k4⟩ | k
      · exact .inl ⟨k1, k2, by omega, by simp only [Ty.width]; omega⟩
      · exact .inr k
    case «at».arr i m t =>
      obtain ⟨z', h1, _⟩ := hs
      obtain ⟨css, ows, rfl, rfl, hlen, ha⟩ := hr
      obtain ⟨⟨hi1, hi2⟩, hi3⟩ := hi
      obtain ⟨a1, a, a2, b1, xb, b2, c1, c, c2, rfl, rfl, rfl, g1, g2, g3, g4, g5, g6⟩ := All3.split (i := i.toNat) ha (by rw [hlen]; omega)
      have hw1 : ∀ c ∈ a1, c.length = t.width := fun c hc => by obtain ⟨_, _, hh⟩ := All3.mem_l g4 c hc; exact hh.len
      rw [rd_of_split (α := t.den) g2] at hg hi3 h1
      simp only [spot] at hsp; rw [(seg_at (a2 := a2) hw1 g5.len g1).1] at hsp
      have hnf : (c1.flatten ++ c ++ c2.flatten).Nodup := by simpa using hn
      rcases ih t a xb c u y h b _ s u' z' g5 (List.nodup_append.1 (List.nodup_append.1 hnf).1).2.1 hg hi3 h1 hsp with ⟨k1, k2, k3, k4⟩ | k
      · refine .inl ⟨k1, k2, by omega, ?_⟩
        have : (i.toNat + 1) * t.width ≤ m * t.width := Nat.mul_le_mul_right _ (by omega)
        rw [Nat.add_mul, Nat.one_mul] at this
        simp only [Ty.width]; omega
      · exact .inr k
    case «at».vec i sl t =>
      split at hs
      · simp at hs
      rename_i hsl
      simp only [Bool.not_eq_true] at hsl
      subst hsl
      simp only [Option.bind_eq_some_iff, Option.some.injEq] at hs
      obtain ⟨z', h1, _⟩ := hs
      obtain ⟨ad, cap, rfl, hcap, hmax, hr⟩ := hr
      obtain ⟨⟨hi1, hi2⟩, hi3⟩ := hi
      rcases hr with ⟨_, rfl, _⟩ | ⟨b0, es, css, ows, rfl, ⟨eid, hblk⟩, hes, hcs, rfl, ha, him0, hsl⟩
      · simp at hi2; omega
      obtain ⟨a1, a, a2, b1, xb, b2, c1, c, c2, rfl, rfl, rfl, g1, g2, g3, g4, g5, g6⟩ := All3.split (i := i.toNat) ha (by omega)
      have hw1 : ∀ c ∈ a1, c.length = t.width := fun c hc => by obtain ⟨_, _, hh⟩ := All3.mem_l g4 c hc; exact hh.len
      have gg := (seg_at (a2 := a2) hw1 g5.len g1).1
      rw [rd_of_split (α := t.den) g2] at hg hi3 h1
      have hnf : (c1.flatten ++ c ++ c2.flatten).Nodup := by simpa using (List.nodup_cons.1 hn).2
      generalize hL : (b1 ++ xb :: b2).length = L at *
      have hseg : (es.toList.drop (i.toNat * t.width)).take t.width = a := by
        rw [← gg, hcs, List.drop_take, List.take_take, Nat.min_eq_left]
        have : (i.toNat + 1) * t.width ≤ L * t.width := Nat.mul_le_mul_right _ (by omega)
        rw [Nat.add_mul, Nat.one_mul] at this
        omega
      simp only [spot, hdrBlk, hblk, Option.bind_some] at hsp
      rw [hseg] at hsp
      rcases ih t a xb c u y true (some b0) _ s u' z' g5 (List.nodup_append.1 (List.nodup_append.1 hnf).1).2.1 hg hi3 h1 hsp with ⟨k1, k2, k3, k4⟩ | k
      · refine .inr ⟨k2, b0, k1, fun j => ?_⟩
        cases hv : I b0 j with
        | none => rfl
        | some v => have := (him0 j v hv).1; simp at this
      · exact .inr k
    case d.box t =>
      obtain ⟨z', h1, _⟩ := hs
      obtain ⟨b0, es, o1, rfl, ⟨eid, hblk⟩, rfl, hr1, hi0⟩ := hr
      simp only [spot, hdrBlk, hblk, Option.bind_some] at hsp
      rcases ih t es.toList x o1 u y true (some b0) 0 s u' z' hr1 (List.nodup_cons.1 hn).2 hg hi h1 hsp with ⟨k1, k2, k3, k4⟩ | k
      · exact .inr ⟨k2, b0, k1, hi0⟩
      · exact .inr k

/-- A store: it runs, and the object holds what was stored. -/
theorem store_ok {P : Program} (R : Inv S n w I σ H own loose) {T : TypeId} {a av : AV} {H' : Heap} (h : H.store P T a av = some H') (ha : ∀ id ∈ a.ids, id < n) (hav : ∀ id ∈ av.ids, id < n) {v : Value} {cs : List Value}
    (hc : AvC w I σ H a cs) (hv : AvC w I σ H av v.cells.toList) :
    ∃ b o w' I' own' loose', cs = [.pointer (some ⟨b, o, none⟩)] ∧ (storeVar T ⟨b, o, none⟩ v).run P w = .ok () w' ∧ Inv S n w' I' σ H' own' loose' ∧ Pres n w I σ H w' I' σ H' := by
  simp only [Heap.store, Option.bind_eq_some_iff] at h
  obtain ⟨pl, h1, ⟨tv, H1⟩, h2, pl1, h3, h⟩ := h
  obtain ⟨I1, own1, ou1, G, hT, hrefs⟩ := tv_ok av R h2 hav hv
  have R1 := G.inv
  obtain ⟨p1, p2, p3, p4, b, o, s, ou, pre, post, lh, rfl, F, hb, ho⟩ := place_ok R1 h3 ((AvR.pres G.pres a ha).1 _ hc)
  split at h
  · rename_i hck
    simp only [Bool.and_eq_true, beq_iff_eq] at hck
    simp only [Option.bind_eq_some_iff, Option.map_eq_some_iff] at h
    obtain ⟨w1, h4, o', h5, rfl⟩ := h
    obtain ⟨z, h6, rfl⟩ := obj_set h5
    -- what is put, as it is told there
    have hou1 : ou1.Nodup := (List.nodup_append.1 R1.lnd).1
    obtain ⟨I2, ou2, q1, q2, q3, q4⟩ : ∃ I2 ou2, Harder w I1 I2 ou1 ∧ TRep w I2 σ w1.t v.cells.toList w1.x ou2 ∧ ou2.Sublist ou1 ∧ w1.t.width = pl1.v.t.width ∧ ∀ j ∈ w1.t.refs, j < n := by
      split at h4
      · simp only [Option.some.injEq] at h4
        subst h4
        exact ⟨I1, ou1, Harder.refl _ _ _, hT, List.Sublist.refl _, hck.2, hrefs⟩
      · simp only [Option.map_eq_some_iff] at h4
        obtain ⟨x', h7, rfl⟩ := h4
        obtain ⟨hm, he, rfl⟩ := as_some h7
        obtain ⟨I2, ou2, q1, q2, q3⟩ := TRep.as (σ := σ) (m := noM) noM_ok hm he I1 _ _ ou1 hT hou1
        exact ⟨I2, ou2, q1, q2, q3, rfl, fun j hj => (R1.rel.lt pl1.id pl1.o p1).2 j (get_refs p2 j hj)⟩
    obtain ⟨q4, q5⟩ := q4
    have hlen : v.cells.toList.length = tv.t.width := hT.len
    have hone : ∀ c ∈ v.cells.toList, c.oneCell' = true := hT.one
    obtain ⟨c0, es, hb', hcpre, hblk, hcells, hfit⟩ : ∃ c es, s.blk = some c ∧ c ∈ pre ∧ Blk w c es ∧ s.cells = (es.toList.drop s.off).take pl1.v.t.width ∧ s.off + pl1.v.t.width ≤ es.size := by
      cases lh with
      | true => exact F.there rfl
      | false => have := (F.here rfl).1; rw [hb] at this; simp at this
    have hlh : lh = true := by
      cases lh with
      | true => rfl
      | false => have := (F.here rfl).1; rw [hb] at this; simp at this
    subst hlh
    rw [hb] at hb'
    injection hb' with hb'
    subst hb'
    rw [← ho]
    obtain ⟨w', es', r1, r2, r3, r4, r5, r6, r7, r8⟩ := run_storeVar (P := P) hck.1 (o := s.off) hlen hblk (by rw [hck.2]; exact hfit) hone
    have hnd := R1.rel.nd pl1.id pl1.o p1
    have hown := F.own
    have hcu : v.cells.toList.length = pl1.v.t.width := by rw [hlen, hck.2]
    -- the fixed part is not touched
    have hI1 : ∀ j, I1 b j = none := by
      have := focus_free pl1.p _ _ _ _ _ _ false none 0 s w1 z (R1.rel.rep pl1.id pl1.o p1) hnd p2 p3 h6 F.spot
      rcases this with ⟨e, _⟩ | ⟨_, c, e, k⟩
      · rw [hb] at e; simp at e
      · rw [hb] at e; injection e with e; subst e; exact k
    have hbo : b ∈ own1 pl1.id := by rw [hown]; simp [hcpre]
    have hbl : b ∉ ou1 ++ loose := fun e => R1.ldj pl1.id pl1.o p1 b e hbo
    have hI2 : ∀ j, I2 b j = none := fun j => by rw [q1.out b (fun e => hbl (by simp [e]))]; exact hI1 j
    -- what is stored, in the new memory
    have hT2 : TRep w' I2 σ w1.t v.cells.toList w1.x ou2 := q2.frame (Imm.le_refl _) (fun d hd => ⟨r4 d (fun e => hbl (by subst e; simp [q3.subset hd])), fun _ => rfl⟩) (fun _ _ => rfl)
    rw [hown] at hnd
    obtain ⟨m1, m2, m3⟩ := List.nodup_append.1 hnd
    obtain ⟨m4, m5, m6⟩ := List.nodup_append.1 m1
    have hbt : ∀ c ∈ pre ++ post, BlkTo w w' true s v.cells.toList c := by
      intro c hc
      unfold BlkTo
      split
      · rename_i e
        have e2 := e.2
        rw [hb] at e2
        injection e2 with e2
        subst e2
        exact ⟨es, es', hblk, r2, r3⟩
      · rename_i e
        exact r4 c (fun e' => e ⟨rfl, by rw [hb, e']⟩)
    have hou2l : ∀ c ∈ own1 pl1.id, c ∉ ou1 := fun c hc hc' => R1.ldj pl1.id pl1.o p1 c (by simp [hc']) hc
    have hT3 := F.plug w' I2 σ w1.t w1.x v.cells.toList ou2 z q4 hT2 h6 (fun _ _ => rfl) q1.le
      (fun c hc j => q1.out c (hou2l c (by rw [hown]; rcases List.mem_append.1 hc with e | e <;> simp [e])) j) hbt
    simp only [if_true] at hT3
    have hev : EvOk (if pl1.v.t.leaf && w1.t.leaf then [] else [(true, pl1.p)]) pl1.p pl1.v.t w1.t (∀ p v, pl1.o.t.get pl1.o.x p = some v → Inb pl1.o.t pl1.o.x p → spot w' pl1.o.t [σ pl1.id] false none 0 p = spot w pl1.o.t [σ pl1.id] false none 0 p) := by
      cases hl : (pl1.v.t.leaf && w1.t.leaf) with
      | true => simp only [Bool.and_eq_true] at hl; exact .inl ⟨rfl, hl.2⟩
      | false => exact .inr (.inl rfl)
    have hp := ObjPres.set (σ := σ) (R1.rel.rep pl1.id pl1.o p1) (R1.rel.nd pl1.id pl1.o p1) p2 F h6 q4 hcu hbt rfl hev
    have hdis : ∀ a ∈ ou2 ++ loose, a ∉ pre ++ post := by
      intro a ha hap
      have : a ∈ ou1 ++ loose := by rcases List.mem_append.1 ha with e | e; simp [q3.subset e]; simp [e]
      exact R1.ldj pl1.id pl1.o p1 a this (by rw [hown]; rcases List.mem_append.1 hap with e | e <;> simp [e])
    have hN : ((pre ++ ou2 ++ post) ++ loose).Nodup := by
      have h2n : (ou2 ++ loose).Nodup := (List.Sublist.append q3 (List.Sublist.refl _)).nodup R1.lnd
      obtain ⟨k1, k2, k3⟩ := List.nodup_append.1 h2n
      refine List.nodup_append.2 ⟨List.nodup_append.2 ⟨List.nodup_append.2 ⟨m4, k1, fun a ha b hb e => ?_⟩, m2, fun a ha b hb e => ?_⟩, k2, fun a ha b hb e => ?_⟩
      · subst e; exact hdis a (by simp [hb]) (by simp [ha])
      · subst e
        rcases List.mem_append.1 ha with ha | ha
        · exact m3 a (by simp [ha]) a hb rfl
        · exact hdis a (by simp [ha]) (by simp [hb])
      · subst e
        rcases List.mem_append.1 ha with ha | ha
        · rcases List.mem_append.1 ha with ha | ha
          · exact hdis a (by simp [hb]) (by simp [ha])
          · exact k3 a ha a hb rfl
        · exact hdis a (by simp [hb]) (by simp [ha])
    obtain ⟨z1, z2⟩ := R1.set (ob' := ⟨z.t, z.x, pl1.o.ev ++ (if pl1.v.t.leaf && w1.t.leaf then [] else [(true, pl1.p)])⟩) (w' := w') (I' := I2) p1 (own1 := pre ++ ou2 ++ post) (loose1 := loose) hT3 hN
      (fun c hc => by
        simp only [List.mem_append] at hc
        rcases hc with ((hc | hc) | hc) | hc
        · exact .inl (by rw [hown]; simp [hc])
        · exact .inr (.inl (by simp [q3.subset hc]))
        · exact .inl (by rw [hown]; simp [hc])
        · exact .inr (.inl (by simp [hc])))
      ⟨r6, r7, r8, by rw [r5]; exact Nat.le_refl _, fun c _ hc => ⟨r4 c (fun e => hc (.inl (by rw [e]; exact hbo))), fun j => q1.out c (fun e => hc (.inr (by simp [e]))) j⟩, q1.le⟩
      (fun c j v' hv' => by
        have hcb : c ≠ b := fun e => by rw [e, hI2] at hv'; simp at hv'
        rw [cell_other (r4 c hcb)]
        rcases q1.imm c j v' hv' with e | e
        · exact R1.rel.imm c j v' e
        · exact e)
      (fun j hj => by rcases ren_refs_sub h6 j hj with e | e; exact (R1.rel.lt pl1.id pl1.o p1).2 j e; exact q5 j e)
      hp
    exact ⟨b, s.off, w', I2, _, loose, rfl, r1, z1, G.pres.trans z2⟩
  · simp at h
end

end Go.Ev

namespace Go.Ev

structure TRel (n : Nat) (w : World) (I : Imm) (σ : Nat → Value) (st : St) (a : Act) : Prop where
  val : ∀ t, AvV w I σ st.heap (st.tmps t) (a.tmps.getD t undef)
  ids : ∀ t, ∀ id ∈ (st.tmps t).ids, id < n

theorem valRel_of {a : AV} {r : (List Value → Prop) × (List Value → Prop)} {v : Value} (h1 : isT a = false) (h2 : r.1 v.cells.toList) (h3 : a.agg = some true → ∃ c, v = .agg c) (h4 : a.agg = some false → ∀ c, v ≠ .agg c) : valRel a r v :=
  ⟨fun e => by rw [h1] at e; simp at e, fun _ => ⟨h2, h3, h4⟩⟩

theorem valRel_any {r : (List Value → Prop) × (List Value → Prop)} {v : Value} (h : ∀ c, r.1 c) : valRel .any r v :=
  ⟨fun e => by simp [isT] at e, fun _ => ⟨h _, fun e => by simp [AV.agg] at e, fun e => by simp [AV.agg] at e⟩⟩

/-- The one cell of a value that is no aggregate. -/
theorem cells_one {v : Value} (h : ∀ c, v ≠ .agg c) : v.cells = #[v] := by
  cases v <;> first | rfl | (rename_i c; exact absurd rfl (h c))

section
variable {S : Start} {n n' : Nat} {w : World} {I : Imm} {σ : Nat → Value} {H : Heap} {own : Own} {loose : List Nat}

theorem AvV.c {a : AV} {v : Value} (h : AvV w I σ H a v) (ht : isT a = false) : AvC w I σ H a v.cells.toList := (h.2 ht).1
theorem AvV.one {a : AV} {v : Value} (h : AvV w I σ H a v) (ht : isT a = false) (ha : a.agg = some false) : AvC w I σ H a [v] := by
  have := h.2 ht
  rw [cells_one (this.2.2 ha)] at this
  exact this.1

/-- A value of which one cell is known. -/
theorem AvV.mk {a : AV} {v : Value} (ht : isT a = false) (ha : a.agg = some false) (hc : AvC w I σ H a [v]) (hv : ∀ c, v ≠ .agg c) : AvV w I σ H a v :=
  valRel_of ht (by rw [cells_one hv]; exact hc) (fun e => by rw [ha] at e; simp at e) (fun _ => hv)

theorem avv_int {k : IntKind} {x : Int} (h1 : k.min ≤ x) (h2 : x ≤ k.max) : AvV w I σ H (.dat (.int k) x) (.int k x) :=
  AvV.mk rfl rfl ⟨rfl, rfl, rfl, h1, h2⟩ (fun c => by simp)
theorem avv_bool {b : Bool} : AvV w I σ H (.dat .bool b) (.bool b) := AvV.mk rfl rfl ⟨rfl, rfl, rfl⟩ (fun c => by simp)
theorem avv_lb {b : Bool} : AvV w I σ H (.lb b) (.bool b) := AvV.mk (a := .lb b) rfl rfl rfl (fun c => by simp)
theorem avv_str {s : ByteArray} (h : s.size ≤ maxI) : AvV w I σ H (.dat .str (bytesOf s)) (.string s) := AvV.mk rfl rfl ⟨rfl, rfl, s, rfl, rfl, h⟩ (fun c => by simp)
theorem avv_any {v : Value} : AvV w I σ H .any v := valRel_any fun _ => trivial

theorem AvV.int_inv {k : IntKind} {x : Int} {v : Value} (h : AvV w I σ H (.dat (.int k) x) v) : v = .int k x ∧ k.min ≤ x ∧ x ≤ k.max := by
  obtain ⟨_, _, h1, h2⟩ := h.one rfl rfl
  simp only [List.cons.injEq, and_true] at h1
  exact ⟨h1, h2⟩
theorem AvV.bool_inv {b : Bool} {v : Value} (h : AvV w I σ H (.dat .bool b) v) : v = .bool b := by
  obtain ⟨_, _, h1⟩ := h.one rfl rfl
  simpa using h1
theorem AvV.lb_inv {b : Bool} {v : Value} (h : AvV w I σ H (.lb b) v) : v = .bool b := by
  have := h.one rfl rfl
  have : [v] = [Value.bool b] := this
  simpa using this
theorem AvV.str_inv {x : List Int} {v : Value} (h : AvV w I σ H (.dat .str x) v) : ∃ s, v = .string s ∧ x = bytesOf s ∧ s.size ≤ maxI := by
  obtain ⟨_, _, s, h1, h2⟩ := h.one rfl rfl
  simp only [List.cons.injEq, and_true] at h1
  exact ⟨s, h1, h2⟩
theorem AvV.nil_inv {v : Value} (h : AvV w I σ H .nil v) : v = .pointer none := by
  have : [v] = [Value.pointer none] := h.one rfl rfl
  simpa using this
theorem AvV.nsl_inv {v : Value} (h : AvV w I σ H .nsl v) : v = .slice none 0 0 := by
  have : [v] = [Value.slice none 0 0] := h.one rfl rfl
  simpa using this

theorem eval_ok {st : St} {a : Act} (h : TRel n w I σ st a) (x : Operand) : AvV w I σ st.heap (st.eval x) (a.eval x) ∧ ∀ id ∈ (st.eval x).ids, id < n := by
  cases x with
  | tmp t => exact ⟨h.val t, h.ids t⟩
  | global g => exact ⟨avv_any, by simp [St.eval, AV.ids]⟩
  | func f => exact ⟨AvV.mk rfl rfl ⟨[], rfl, rfl⟩ (fun c => by simp [Act.eval]), by simp [St.eval, AV.ids]⟩
  | const v =>
    simp only [St.eval, Act.eval]
    unfold AV.ofValue
    split
    · split
      · rename_i hk; exact ⟨avv_int hk.1 hk.2, by simp [AV.ids]⟩
      · exact ⟨avv_any, by simp [AV.ids]⟩
    · exact ⟨avv_lb, by simp [AV.ids]⟩
    · split
      · rename_i hk; exact ⟨avv_str hk, by simp [AV.ids]⟩
      · exact ⟨avv_any, by simp [AV.ids]⟩
    · exact ⟨AvV.mk (a := .nil) rfl rfl rfl (fun c => by simp), by simp [AV.ids]⟩
    · exact ⟨AvV.mk (a := .nsl) rfl rfl rfl (fun c => by simp), by simp [AV.ids]⟩
    · exact ⟨avv_any, by simp [AV.ids]⟩

/-! ### Zero values -/
theorem zeq1_ok {a b : Value} (h : zeq1 a b = true) : a = b := by
  unfold zeq1 at h
  split at h
  · simp only [Bool.and_eq_true, beq_iff_eq] at h; rw [h.1, h.2]
  · simp only [beq_iff_eq] at h; rw [h]
  · rename_i x y
    simp only [Bool.and_eq_true, beq_iff_eq] at h
    have hx : x = ByteArray.empty := by
      obtain ⟨⟨l⟩⟩ := x
      have : l = [] := List.eq_nil_of_length_eq_zero (by simpa [ByteArray.size] using h.1)
      subst this; rfl
    have hy : y = ByteArray.empty := by
      obtain ⟨⟨l⟩⟩ := y
      have : l = [] := List.eq_nil_of_length_eq_zero (by simpa [ByteArray.size] using h.2)
      subst this; rfl
    rw [hx, hy]
  · rfl
  · rfl
  · simp at h

theorem zeqL_ok : ∀ {x y : List Value}, zeqL x y = true → x = y
  | [], [], _ => rfl
  | a :: x, b :: y, h => by
    simp only [zeqL, Bool.and_eq_true] at h
    rw [zeq1_ok h.1, zeqL_ok h.2]
  | [], _ :: _, h => by simp [zeqL] at h
  | _ :: _, [], h => by simp [zeqL] at h

theorem min_le_zero (k : IntKind) : k.min ≤ 0 ∧ 0 ≤ k.max := by cases k <;> decide

theorem All3.rep {A B C : Type} {R : A → B → C → Prop} {a : A} {b : B} {c : C} (h : R a b c) : ∀ n : Nat, All3 R (List.replicate n a) (List.replicate n b) (List.replicate n c)
  | 0 => trivial
  | n + 1 => ⟨h, All3.rep h n⟩

theorem zero_ok : ∀ {t : Ty}, t.zok = true → TRep w I σ t t.zcells t.zero []
  | .int k, _ => ⟨rfl, rfl, (min_le_zero k).1, (min_le_zero k).2⟩
  | .bool, _ => ⟨rfl, rfl⟩
  | .str, _ => ⟨rfl, .empty, rfl, rfl, by decide⟩
  | .unit, _ => ⟨rfl, rfl⟩
  | .nil, _ => ⟨rfl, rfl⟩
  | .vec s t, _ => ⟨none, 0, rfl, by simp [Ty.zero], by decide, .inl ⟨rfl, rfl, rfl, rfl⟩⟩
  | .list t, h => ⟨rfl, h, none, 0, [], [], rfl, by simp [Ty.zero], by decide, trivial, fun hx => absurd rfl hx⟩
  | .one t, h => zero_ok (t := t) h
  | .pair a b, h => by
    simp only [Ty.zok, Bool.and_eq_true] at h
    exact ⟨a.zcells, b.zcells, [], [], rfl, rfl, zero_ok h.1, zero_ok h.2⟩
  | .arr k t, h => by
    refine ⟨List.replicate k t.zcells, List.replicate k [], rfl, ?_, by simp [Ty.zero], ?_⟩
    · rw [flatten_nil (l := List.replicate k []) fun a ha => (List.mem_replicate.1 ha).2]
    · exact All3.rep (zero_ok (t := t) h) k
  | .map _ _, h => by simp [Ty.zok] at h
  | .box _, h => by simp [Ty.zok] at h
  | .ref _, h => by simp [Ty.zok] at h
  | .hole _, h => by simp [Ty.zok] at h

theorem zok_refs : ∀ {t : Ty}, t.zok = true → t.refs = []
  | .int _, _ | .bool, _ | .str, _ | .unit, _ | .nil, _ => rfl
  | .vec s t, h => by simp only [Ty.zok, Bool.and_eq_true, List.isEmpty_iff] at h; exact h.2
  | .list t, h => by rw [Ty.refs]; exact pure_refs (t := t) h
  | .one t, h => zok_refs (t := t) h
  | .arr _ t, h => zok_refs (t := t) h
  | .pair a b, h => by
    simp only [Ty.zok, Bool.and_eq_true] at h
    rw [Ty.refs, zok_refs h.1, zok_refs h.2]; rfl
  | .map _ _, h => by simp [Ty.zok] at h
  | .box _, h => by simp [Ty.zok] at h
  | .ref _, h => by simp [Ty.zok] at h
  | .hole _, h => by simp [Ty.zok] at h

theorem zeroOk_ok {P : Program} {T : TypeId} {t : Ty} (h : zeroOk P T t = true) : t.zok = true ∧ ∃ i z, P.info? T = some i ∧ i.zero = some z ∧ z.cells.toList = t.zcells := by
  unfold zeroOk at h
  simp only [Bool.and_eq_true] at h
  refine ⟨h.1, ?_⟩
  have h2 := h.2
  split at h2
  · rename_i i hi
    split at h2
    · rename_i z hz; exact ⟨i, z, hi, hz, zeqL_ok h2⟩
    · simp at h2
  · simp at h2

theorem run_zero {P : Program} {T : TypeId} {i : TypeInfo} {z : Value} (h : P.info? T = some i) (hz : i.zero = some z) (w : World) : (zeroValue T).run P w = .ok z w := by
  simp [zeroValue, run_info h, hz]

/-! ### New blocks -/
/-- A world with one more block. -/
structure Grew (w w' : World) (es : Array Value) : Prop where
  blk : Blk w' w.heap.size es
  size : w'.heap.size = w.heap.size + 1
  old : ∀ b, b < w.heap.size → w'.heap[b]? = w.heap[b]?
  os : w'.os = w.os
  tape : w'.tape = w.tape
  output : w'.output = w.output

theorem grew_push (w : World) (es : Array Value) (T : TypeId) : Grew w { w with heap := w.heap.push (.cells es T) } es :=
  ⟨⟨T, by simp⟩, by simp, fun b hb => by simp [Array.getElem?_push, Nat.ne_of_lt hb], rfl, rfl, rfl⟩

theorem run_newRow (P : Program) (w : World) (T : TypeId) (es : Array Value) : (newRow T es).run P w = .ok ⟨w.heap.size, 0, none⟩ { w with heap := w.heap.push (.cells es T) } := by
  simp [newRow]

theorem Grew.kept {w' : World} {es : Array Value} (h : Grew w w' es) (I : Imm) (O : Nat → Prop) : Kept w w' I I O :=
  ⟨h.os, h.tape, h.output, by rw [h.size]; omega, fun b hb _ => ⟨h.old b hb, fun _ => rfl⟩, Imm.le_refl I⟩

theorem imm_lt (R : Inv S n w I σ H own loose) {b j : Nat} {v : Value} (h : I b j = some v) : b < w.heap.size := by
  have := R.rel.imm b j v h
  simp only [World.cell?] at this
  cases hb : w.heap[b]? with
  | none => rw [hb] at this; simp at this
  | some o => exact (Array.getElem?_eq_some_iff.1 hb).1

theorem imm_new (R : Inv S n w I σ H own loose) {b : Nat} (h : w.heap.size ≤ b) (j : Nat) : I b j = none := by
  cases hv : I b j with
  | none => rfl
  | some v => have := imm_lt R hv; omega

theorem TRep.grew {w' : World} {es : Array Value} (h : Grew w w' es) {t : Ty} {cs : List Value} {x : t.den} {ow : List Nat} (hr : TRep w I σ t cs x ow) : TRep w' I σ t cs x ow :=
  hr.frame (Imm.le_refl I) (fun b hb => ⟨h.old b (hr.own_lt b hb), fun _ => rfl⟩) (fun _ _ => rfl)

theorem sig_frame {t : Ty} {cs : List Value} {x : t.den} {ow : List Nat} {id : Nat} {hv : Value} (hr : TRep w I σ t cs x ow) (h : ∀ j ∈ t.refs, j < n) (hid : n ≤ id) : TRep w I (fun j => if j = id then hv else σ j) t cs x ow :=
  hr.frame (Imm.le_refl I) (fun _ _ => ⟨rfl, fun _ => rfl⟩) (fun j hj => by have := h j hj; rw [if_neg (by omega)])

theorem grew_imm (R : Inv S n w I σ H own loose) {w' : World} {es : Array Value} (h : Grew w w' es) : ∀ b j v, I b j = some v → w'.cell? ⟨b, j, none⟩ = some v := by
  intro b j v hv
  rw [cell_other (h.old b (imm_lt R hv))]
  exact R.rel.imm b j v hv

/-- A new variable. -/
theorem new_box {ou : List Nat} (R : Inv S n w I σ H own (ou ++ loose)) {w' : World} {es : Array Value} {t : Ty} {x : t.den} (hG : Grew w w' es) (hT : TRep w I σ t es.toList x ou) {id : Nat} (hid : n ≤ id) (hid' : id < n')
    (hrefs : ∀ j ∈ t.refs, j < n) (hS : ∀ j o, S.H j = some o → j < n) :
    ∃ σ' own', Inv S n' w' I σ' (H.put id (some ⟨.box t, x, []⟩)) own' loose ∧ Pres n w I σ H w' I σ' (H.put id (some ⟨.box t, x, []⟩)) ∧
      AvV w' I σ' (H.put id (some ⟨.box t, x, []⟩)) (.ptr id [.d] [] 0 0) (.pointer (some ⟨w.heap.size, 0, none⟩)) := by
  have hnew := R.new (t := .box t) (x := x) (hv := .pointer (some ⟨w.heap.size, 0, none⟩)) (own1 := w.heap.size :: ou) (loose1 := loose) (w' := w') (I' := I) hid hid'
    ⟨w.heap.size, es, ou, by simp, hG.blk, rfl, sig_frame (hT.grew hG) hrefs hid, fun j => imm_new R (Nat.le_refl _) j⟩
    (by
      refine List.nodup_cons.2 ⟨fun e => ?_, R.lnd⟩
      have := (R.lown _ e).2
      omega)
    (fun b hb => by
      rw [List.cons_append] at hb
      rcases List.mem_cons.1 hb with rfl | hb
      · exact .inr ⟨Nat.le_refl _, by rw [hG.size]; omega⟩
      · exact .inl hb)
    (hG.kept I _) (grew_imm R hG) hrefs hS
  refine ⟨_, _, hnew.1, hnew.2, ?_⟩
  refine AvV.mk rfl rfl ⟨w.heap.size, 0, 0, rfl, rfl, fun ob hob => ?_⟩ (fun c => by simp)
  rw [put_self] at hob
  injection hob with hob
  subst hob
  refine ⟨Nat.zero_le _, fun _ u hu => ⟨inb_nil _ _, ⟨true, some w.heap.size, 0, es.toList⟩, ?_, rfl, rfl⟩⟩
  obtain ⟨eid, hb⟩ := hG.blk
  simp only [spot, if_true, hdrBlk, hb, Option.bind_some, spot_nil]

/-- A new slice of one's own. -/
theorem new_vec {ou : List Nat} (R : Inv S n w I σ H own (ou ++ loose)) {w' : World} {t : Ty} {x : t.den} {own1 : List Nat} {a : Option Addr} {l c : Nat} {id : Nat} (hid : n ≤ id) (hid' : id < n')
    (hT : TRep w' I σ t [.slice a l c] x own1) (hh : t.handle = true) (hK : Kept w w' I I (fun b => b ∈ ou ++ loose)) (himm : ∀ b j v, I b j = some v → w'.cell? ⟨b, j, none⟩ = some v)
    (hnd : own1.Nodup) (hsub : ∀ b ∈ own1, b ∈ ou ∨ (w.heap.size ≤ b ∧ b < w'.heap.size)) (hrefs : ∀ j ∈ t.refs, j < n) (hS : ∀ j o, S.H j = some o → j < n) :
    ∃ σ' own', Inv S n' w' I σ' (H.put id (some ⟨t, x, []⟩)) own' loose ∧ Pres n w I σ H w' I σ' (H.put id (some ⟨t, x, []⟩)) ∧
      AvV w' I σ' (H.put id (some ⟨t, x, []⟩)) (.slw id [] 0) (.slice a l c) := by
  obtain ⟨l1, l2, l3⟩ := List.nodup_append.1 R.lnd
  have hnew := R.new (t := t) (x := x) (hv := .slice a l c) (own1 := own1) (loose1 := loose) (w' := w') (I' := I) hid hid' (by simpa using sig_frame hT hrefs hid)
    (List.nodup_append.2 ⟨hnd, l2, fun a ha b hb e => by
      subst e
      rcases hsub a ha with h | h
      · exact l3 a h a hb rfl
      · have := (R.lown a (by simp [hb])).2; omega⟩)
    (fun b hb => by
      rcases List.mem_append.1 hb with hb | hb
      · rcases hsub b hb with h | h
        · exact .inl (by simp [h])
        · exact .inr h
      · exact .inl (by simp [hb]))
    hK himm hrefs hS
  refine ⟨_, _, hnew.1, hnew.2, ?_⟩
  refine AvV.mk rfl rfl ⟨a, l, c, t.hk, rfl, fun ob hob => ?_⟩ (fun c => by simp)
  rw [put_self] at hob
  injection hob with hob
  subst hob
  refine ⟨Nat.zero_le _, fun _ u hu hh => ?_⟩
  simp only [Ty.get, Option.some.injEq] at hu
  subst hu
  exact ⟨inb_nil _ _, rfl, ⟨false, none, 0, [.slice a l c]⟩, by simp [spot_nil], rfl⟩
end

end Go.Ev

namespace Go.Ev

section
variable {S : Start} {n n' : Nat} {w : World} {I : Imm} {σ : Nat → Value} {H : Heap} {own : Own} {loose : List Nat}

theorem Inv.more (R : Inv S n w I σ H own loose) (h : n ≤ n') : Inv S n' w I σ H own loose :=
  ⟨⟨R.rel.imm, R.rel.rep, R.rel.nd, R.rel.dj, fun id o ho => ⟨by have := (R.rel.lt id o ho).1; omega, fun j hj => by have := (R.rel.lt id o ho).2 j hj; omega⟩⟩, R.kept, R.owns, R.lnd, R.ldj, R.lown, R.hdl⟩

theorem Inv.unloose {l : List Nat} (R : Inv S n w I σ H own (l ++ loose)) : Inv S n w I σ H own loose :=
  ⟨R.rel, R.kept, R.owns, (List.nodup_append.1 R.lnd).2.1, fun id o ho b hb => R.ldj id o ho b (by simp [hb]), fun b hb => R.lown b (by simp [hb]), R.hdl⟩

/-! ### Numbers -/
theorem wrap_in (k : IntKind) (x : Int) : k.min ≤ k.wrap x ∧ k.wrap x ≤ k.max := by
  cases k <;> simp [IntKind.wrap, IntKind.min, IntKind.max, IntKind.signed, IntKind.bits] <;> (try split) <;> omega

theorem wrapK_eq (k : IntKind) (x : Int) : wrapK k x = k.wrap x := by
  cases k <;> simp [wrapK, w64_eq, wrapK'_eq]
theorem wrapK_in (k : IntKind) (x : Int) : k.min ≤ wrapK k x ∧ wrapK k x ≤ k.max := by rw [wrapK_eq]; exact wrap_in k x

theorem bitK_in (op : BinOp) (k : IntKind) (x y : Int) : k.min ≤ bitK op k x y ∧ bitK op k x y ≤ k.max := by
  unfold bitK; rw [shut_eq]; split <;> exact wrap_in _ _

theorem fdiv_in {k : IntKind} {x : Int} (h1 : k.min ≤ x) (h2 : x ≤ k.max) (m : Nat) : k.min ≤ x.fdiv (2 ^ m) ∧ x.fdiv (2 ^ m) ≤ k.max := by
  have hp : (0 : Int) < 2 ^ m := Int.pow_pos (by decide)
  rw [Int.fdiv_eq_ediv_of_nonneg _ (Int.le_of_lt hp)]
  have hz := min_le_zero k
  constructor
  · by_cases hx : 0 ≤ x
    · exact Int.le_trans hz.1 (Int.ediv_nonneg hx (Int.le_of_lt hp))
    · have : x ≤ x / 2 ^ m := by
        rw [Int.le_ediv_iff_mul_le hp]
        have h1 : (1 : Int) ≤ 2 ^ m := hp
        have h2 := Int.mul_le_mul_of_nonneg_left h1 (by omega : 0 ≤ -x)
        rw [Int.neg_mul, Int.neg_mul] at h2
        omega
      omega
  · by_cases hx : 0 ≤ x
    · have : x / 2 ^ m ≤ x := Int.ediv_le_self _ hx
      omega
    · have : x / 2 ^ m < 0 := Int.ediv_neg_of_neg_of_pos (by omega) hp
      omega

theorem tmod_in {k : IntKind} {x y : Int} (h1 : k.min ≤ x) (h2 : x ≤ k.max) (h3 : k.min ≤ y) (h4 : y ≤ k.max) (h0 : y ≠ 0) : k.min ≤ x.tmod y ∧ x.tmod y ≤ k.max := by
  have hz := min_le_zero k
  have ha := Int.natAbs_tmod x y
  have hm : x.natAbs % y.natAbs ≤ x.natAbs := Nat.mod_le _ _
  by_cases hx : 0 ≤ x
  · have := Int.tmod_nonneg y hx
    omega
  · have h5 : x.tmod y = -((-x).tmod y) := by rw [Int.neg_tmod]; omega
    have h6 := Int.tmod_nonneg y (by omega : 0 ≤ -x)
    omega
end
end Go.Ev

