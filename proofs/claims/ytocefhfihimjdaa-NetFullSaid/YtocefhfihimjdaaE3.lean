/- A way to show what code computes: part 3: no condition. -/
import Derived.Test.YtocefhfihimjdaaE2
set_option linter.unusedVariables false
namespace Go.Ev

def PtrC (w : World) (σ : Nat → Value) (id : Nat) (ob : Obj) (p : Path) (b base : Nat) : Prop :=
  ∀ u, ob.t.get ob.x p = some u → Inb ob.t ob.x p ∧ ∃ s, spot w ob.t [σ id] false none 0 p = some s ∧ s.blk = some b ∧ s.off = base
def HdrC (w : World) (σ : Nat → Value) (id : Nat) (ob : Obj) (p : Path) (v : Value) (k : Nat) : Prop :=
  ∀ u, ob.t.get ob.x p = some u → u.t.handle = true → Inb ob.t ob.x p ∧ u.t.hk = k ∧ ∃ s, spot w ob.t [σ id] false none 0 p = some s ∧ s.cells = [v]

/-- A value out of what is known of its cells, or, of several, of its list. -/
def valRel (a : AV) (r : (List Value → Prop) × (List Value → Prop)) (v : Value) : Prop :=
  (isT a = true → ∃ l : List Value, v = .tuple l.toArray ∧ r.2 l) ∧
  (isT a = false → r.1 v.cells.toList ∧ (a.agg = some true → ∃ c, v = .agg c) ∧ (a.agg = some false → ∀ c, v ≠ .agg c))

def AvR (w : World) (I : Imm) (σ : Nat → Value) (H : Heap) : AV → (List Value → Prop) × (List Value → Prop)
  | .any => (fun _ => True, fun _ => False)
  | .dat t x => (fun cs => t.pure = true ∧ TRep w I σ t cs x [], fun _ => False)
  | .lb b => (fun cs => cs = [.bool b], fun _ => False)
  | .ptr id p _ off ver => (fun cs => ∃ b o base, cs = [.pointer (some ⟨b, o, none⟩)] ∧ o = base + off ∧
      ∀ ob, H id = some ob → ver ≤ ob.ev.length ∧ (ob.ok false p ver = true → PtrC w σ id ob p b base), fun _ => False)
  | .vptr t x => (fun cs => t.pure = true ∧ ∃ b o es, cs = [.pointer (some ⟨b, o, none⟩)] ∧ TRep w I σ t es x [] ∧ ∀ j v, es[j]? = some v → I b (o + j) = some v, fun _ => False)
  | .slw id p ver => (fun cs => ∃ a l c k, cs = [.slice a l c] ∧ ∀ ob, H id = some ob → ver ≤ ob.ev.length ∧ (ob.ok true p ver = true → HdrC w σ id ob p (.slice a l c) k), fun _ => False)
  | .sub id p ver off len => (fun cs => ∃ (a : Option Addr) (l c : Nat) (ha : Option Addr) (hl hc k : Nat), cs = [.slice a l c] ∧ (l : Int) = len ∧ 0 ≤ off ∧ l ≤ c ∧ c ≤ maxI ∧ off + len ≤ (hl : Int) ∧ (0 < l → a = ha.map fun d => d.add (off.toNat * k)) ∧
      ∀ ob, H id = some ob → ver ≤ ob.ev.length ∧ (ob.ok true p ver = true → HdrC w σ id ob p (.slice ha hl hc) k), fun _ => False)
  | .mp id p ver => (fun cs => ∃ r k, cs = [.map r] ∧ ∀ ob, H id = some ob → ver ≤ ob.ev.length ∧ (ob.ok true p ver = true → HdrC w σ id ob p (.map r) k), fun _ => False)
  | .nil => (fun cs => cs = [.pointer none], fun _ => False)
  | .nsl => (fun cs => cs = [.slice none 0 0], fun _ => False)
  | .one a => (fun cs => (AvR w I σ H a).1 cs, fun _ => False)
  | .pair a b => (fun cs => ∃ c1 c2, cs = c1 ++ c2 ∧ (AvR w I σ H a).1 c1 ∧ (AvR w I σ H b).1 c2, fun _ => False)
  | .tnil => (fun _ => False, fun l => l = [])
  | .tup a b => (fun _ => False, fun l => ∃ v r, l = v :: r ∧ valRel a (AvR w I σ H a) v ∧ (AvR w I σ H b).2 r)
  | .clo f c => (fun cs => ∃ l : List Value, cs = [.func (.func f) #[] l.toArray] ∧ (AvR w I σ H c).2 l, fun _ => False)

abbrev AvC (w : World) (I : Imm) (σ : Nat → Value) (H : Heap) (a : AV) (cs : List Value) : Prop := (AvR w I σ H a).1 cs
abbrev AvL (w : World) (I : Imm) (σ : Nat → Value) (H : Heap) (a : AV) (l : List Value) : Prop := (AvR w I σ H a).2 l
abbrev AvV (w : World) (I : Imm) (σ : Nat → Value) (H : Heap) (a : AV) (v : Value) : Prop := valRel a (AvR w I σ H a) v

/-- What is known of an object's places is known of them behind. -/
structure ObjPres (w : World) (σ : Nat → Value) (ob : Obj) (w' : World) (σ' : Nat → Value) (ob' : Obj) (id : Nat) : Prop where
  ev : ∃ es, ob'.ev = ob.ev ++ es
  at_ : ∀ hdr p ver, ver ≤ ob.ev.length → ob'.ok hdr p ver = true → ∀ u', ob'.t.get ob'.x p = some u' → ∃ u, ob.t.get ob.x p = some u ∧
    (hdr = true → u'.t.handle = true → u.t.handle = true ∧ u.t.hk = u'.t.hk) ∧
    (Inb ob.t ob.x p → Inb ob'.t ob'.x p ∧ ∀ s, spot w ob.t [σ id] false none 0 p = some s → ∃ s', spot w' ob'.t [σ' id] false none 0 p = some s' ∧ s'.blk = s.blk ∧ s'.off = s.off ∧
      (hdr = true → u'.t.handle = true → s'.cells = s.cells))

theorem ok_app {ob ob' : Obj} {es : List (Bool × Path)} (h : ob'.ev = ob.ev ++ es) {hdr : Bool} {p : Path} {ver : Nat} (hv : ver ≤ ob.ev.length) :
    ob'.ok hdr p ver = (ob.ok hdr p ver && es.all fun e => !hit e hdr p) := by
  unfold Obj.ok
  rw [h, List.drop_append_of_le_length hv, List.all_append]

theorem ObjPres.len {w w' : World} {σ σ' : Nat → Value} {ob ob' : Obj} {id : Nat} (h : ObjPres w σ ob w' σ' ob' id) : ob.ev.length ≤ ob'.ev.length := by
  obtain ⟨es, e⟩ := h.ev
  rw [e]; simp
theorem ObjPres.ok {w w' : World} {σ σ' : Nat → Value} {ob ob' : Obj} {id : Nat} (h : ObjPres w σ ob w' σ' ob' id) (hdr : Bool) (p : Path) (ver : Nat) (hv : ver ≤ ob.ev.length)
    (hok : ob'.ok hdr p ver = true) : ob.ok hdr p ver = true := by
  obtain ⟨es, e⟩ := h.ev
  rw [ok_app e hv, Bool.and_eq_true] at hok
  exact hok.1

structure Pres (n : Nat) (w : World) (I : Imm) (σ : Nat → Value) (H : Heap) (w' : World) (I' : Imm) (σ' : Nat → Value) (H' : Heap) : Prop where
  imm : I.le I'
  obj : ∀ id ob', id < n → H' id = some ob' → ∃ ob, H id = some ob ∧ ObjPres w σ ob w' σ' ob' id
  sig : ∀ id, id < n → H id = none → σ' id = σ id
  hdl : ∀ id ob ob', id < n → H id = some ob → H' id = some ob' → ob'.ok true [] ob.ev.length = true → σ' id = σ id

section
variable {n : Nat} {w w' : World} {I I' : Imm} {σ σ' : Nat → Value} {H H' : Heap}

theorem PtrC.pres {id : Nat} {ob ob' : Obj} (h : ObjPres w σ ob w' σ' ob' id) {p : Path} {b base ver : Nat} (hv : ver ≤ ob.ev.length) (hok : ob'.ok false p ver = true)
    (hc : PtrC w σ id ob p b base) : PtrC w' σ' id ob' p b base := by
  intro u' hu'
  obtain ⟨u, h1, _, h2⟩ := h.at_ false p ver hv hok u' hu'
  obtain ⟨h3, s, h4, h5, h6⟩ := hc u h1
  obtain ⟨h7, h8⟩ := h2 h3
  obtain ⟨s', h9, h10, h11, _⟩ := h8 s h4
  exact ⟨h7, s', h9, by rw [h10, h5], by rw [h11, h6]⟩

theorem HdrC.pres {id : Nat} {ob ob' : Obj} (h : ObjPres w σ ob w' σ' ob' id) {p : Path} {v : Value} {k ver : Nat} (hv : ver ≤ ob.ev.length) (hok : ob'.ok true p ver = true)
    (hc : HdrC w σ id ob p v k) : HdrC w' σ' id ob' p v k := by
  intro u' hu' hh
  obtain ⟨u, h1, hu, h2⟩ := h.at_ true p ver hv hok u' hu'
  obtain ⟨hu1, hu2⟩ := hu rfl hh
  obtain ⟨h3, hk, s, h4, h5⟩ := hc u h1 hu1
  obtain ⟨h7, h8⟩ := h2 h3
  obtain ⟨s', h9, _, _, h12⟩ := h8 s h4
  exact ⟨h7, by rw [← hu2, hk], s', h9, by rw [h12 rfl hh, h5]⟩

theorem valRel.mono {a : AV} {r r' : (List Value → Prop) × (List Value → Prop)} {v : Value} (h : valRel a r v) (h1 : ∀ c, r.1 c → r'.1 c) (h2 : ∀ c, r.2 c → r'.2 c) : valRel a r' v := by
  refine ⟨fun e => ?_, fun e => ?_⟩
  · obtain ⟨l, e, h⟩ := h.1 e; exact ⟨l, e, h2 l h⟩
  · exact ⟨h1 _ (h.2 e).1, (h.2 e).2⟩

theorem AvR.on (P : I.le I') : ∀ (a : AV), (∀ id ∈ a.ids, ∀ ob', H' id = some ob' → ∃ ob, H id = some ob ∧ ObjPres w σ ob w' σ' ob' id) → (∀ c, (AvR w I σ H a).1 c → (AvR w' I' σ' H' a).1 c) ∧ (∀ c, (AvR w I σ H a).2 c → (AvR w' I' σ' H' a).2 c) := by
  intro a
  induction a with
  | any => intro _; exact ⟨fun _ h => h, fun _ h => h⟩
  | dat t x => intro _; exact ⟨fun _ h => ⟨h.1, h.2.lift P h.1⟩, fun _ h => h⟩
  | lb b => intro _; exact ⟨fun _ h => h, fun _ h => h⟩
  | ptr id p q off ver =>
    intro hn
    refine ⟨fun c h => ?_, fun _ h => h⟩
    obtain ⟨b, o, base, h1, h2, h3⟩ := h
    refine ⟨b, o, base, h1, h2, fun ob' hob' => ?_⟩
    obtain ⟨ob, hob, hp⟩ := hn id (by simp [AV.ids]) ob' hob'
    obtain ⟨h4, h5⟩ := h3 ob hob
    exact ⟨Nat.le_trans h4 hp.len, fun hok => (h5 (hp.ok false p ver h4 hok)).pres hp h4 hok⟩
  | vptr t x =>
    intro _
    refine ⟨fun c h => ?_, fun _ h => h⟩
    obtain ⟨hp, b, o, es, h1, h2, h3⟩ := h
    exact ⟨hp, b, o, es, h1, h2.lift P hp, fun j v hv => P _ _ _ (h3 j v hv)⟩
  | slw id p ver =>
    intro hn
    refine ⟨fun c h => ?_, fun _ h => h⟩
    obtain ⟨b, l, cc, k, h1, h3⟩ := h
    refine ⟨b, l, cc, k, h1, fun ob' hob' => ?_⟩
    obtain ⟨ob, hob, hp⟩ := hn id (by simp [AV.ids]) ob' hob'
    obtain ⟨h4, h5⟩ := h3 ob hob
    exact ⟨Nat.le_trans h4 hp.len, fun hok => (h5 (hp.ok true p ver h4 hok)).pres hp h4 hok⟩
  | sub id p ver off len =>
    intro hn
    refine ⟨fun c h => ?_, fun _ h => h⟩
    obtain ⟨b, l, cc, ha, hl, hc, k, h1, g1, g2, g3, g4, g5, g6, h3⟩ := h
    refine ⟨b, l, cc, ha, hl, hc, k, h1, g1, g2, g3, g4, g5, g6, fun ob' hob' => ?_⟩
    obtain ⟨ob, hob, hp⟩ := hn id (by simp [AV.ids]) ob' hob'
    obtain ⟨h4, h5⟩ := h3 ob hob
    exact ⟨Nat.le_trans h4 hp.len, fun hok => (h5 (hp.ok true p ver h4 hok)).pres hp h4 hok⟩
  | mp id p ver =>
    intro hn
    refine ⟨fun c h => ?_, fun _ h => h⟩
    obtain ⟨r, k, h1, h3⟩ := h
    refine ⟨r, k, h1, fun ob' hob' => ?_⟩
    obtain ⟨ob, hob, hp⟩ := hn id (by simp [AV.ids]) ob' hob'
    obtain ⟨h4, h5⟩ := h3 ob hob
    exact ⟨Nat.le_trans h4 hp.len, fun hok => (h5 (hp.ok true p ver h4 hok)).pres hp h4 hok⟩
  | nil => intro _; exact ⟨fun _ h => h, fun _ h => h⟩
  | nsl => intro _; exact ⟨fun _ h => h, fun _ h => h⟩
  | one a ih => intro hn; exact ⟨fun c h => (ih hn).1 c h, fun _ h => h⟩
  | pair a b iha ihb =>
    intro hn
    have ha := iha fun id h => hn id (by simp [AV.ids, h])
    have hb := ihb fun id h => hn id (by simp [AV.ids, h])
    refine ⟨fun c h => ?_, fun _ h => h⟩
    obtain ⟨c1, c2, e, h1, h2⟩ := h
    exact ⟨c1, c2, e, ha.1 _ h1, hb.1 _ h2⟩
  | tnil => intro _; exact ⟨fun _ h => h, fun _ h => h⟩
  | tup a b iha ihb =>
    intro hn
    have ha := iha fun id h => hn id (by simp [AV.ids, h])
    have hb := ihb fun id h => hn id (by simp [AV.ids, h])
    refine ⟨fun _ h => h, fun c h => ?_⟩
    obtain ⟨v, r, e, h1, h2⟩ := h
    exact ⟨v, r, e, h1.mono ha.1 ha.2, hb.2 _ h2⟩
  | clo f c ih =>
    intro hn
    refine ⟨fun cs h => ?_, fun _ h => h⟩
    obtain ⟨l, e, h⟩ := h
    exact ⟨l, e, (ih hn).2 _ h⟩

theorem AvR.pres (P : Pres n w I σ H w' I' σ' H') (a : AV) (hn : ∀ id ∈ a.ids, id < n) : (∀ c, (AvR w I σ H a).1 c → (AvR w' I' σ' H' a).1 c) ∧ (∀ c, (AvR w I σ H a).2 c → (AvR w' I' σ' H' a).2 c) :=
  AvR.on P.imm a fun id hid ob' hob' => P.obj id ob' (hn id hid) hob'

theorem AvV.on (P : I.le I') {a : AV} (hn : ∀ id ∈ a.ids, ∀ ob', H' id = some ob' → ∃ ob, H id = some ob ∧ ObjPres w σ ob w' σ' ob' id) {v : Value} (h : AvV w I σ H a v) : AvV w' I' σ' H' a v :=
  valRel.mono h (AvR.on P a hn).1 (AvR.on P a hn).2

theorem AvV.pres (P : Pres n w I σ H w' I' σ' H') {a : AV} (hn : ∀ id ∈ a.ids, id < n) {v : Value} (h : AvV w I σ H a v) : AvV w' I' σ' H' a v :=
  valRel.mono h (AvR.pres P a hn).1 (AvR.pres P a hn).2

theorem ObjPres.refl (w : World) (σ : Nat → Value) (ob : Obj) (id : Nat) : ObjPres w σ ob w σ ob id :=
  ⟨⟨[], by simp⟩, fun _ _ _ _ _ u' hu' => ⟨u', hu', fun _ h => ⟨h, rfl⟩, fun hi => ⟨hi, fun s hs => ⟨s, hs, rfl, rfl, fun _ _ => rfl⟩⟩⟩⟩

theorem ObjPres.trans {w1 w2 w3 : World} {σ1 σ2 σ3 : Nat → Value} {a b c : Obj} {id : Nat} (h : ObjPres w1 σ1 a w2 σ2 b id) (k : ObjPres w2 σ2 b w3 σ3 c id) : ObjPres w1 σ1 a w3 σ3 c id := by
  refine ⟨?_, fun hdr p ver hv hok u'' hu'' => ?_⟩
  · obtain ⟨es, e⟩ := h.ev; obtain ⟨fs, f⟩ := k.ev; exact ⟨es ++ fs, by rw [f, e, List.append_assoc]⟩
  obtain ⟨u', h1, h2, h3⟩ := k.at_ hdr p ver (Nat.le_trans hv h.len) hok u'' hu''
  obtain ⟨u, g1, g2, g3⟩ := h.at_ hdr p ver hv (k.ok hdr p ver (Nat.le_trans hv h.len) hok) u' h1
  refine ⟨u, g1, fun e eh => ?_, fun hi => ?_⟩
  · obtain ⟨a1, a2⟩ := h2 e eh
    obtain ⟨b1, b2⟩ := g2 e a1
    exact ⟨b1, by rw [b2, a2]⟩
  · obtain ⟨a1, a2⟩ := g3 hi
    obtain ⟨b1, b2⟩ := h3 a1
    refine ⟨b1, fun s hs => ?_⟩
    obtain ⟨s', c1, c2, c3, c4⟩ := a2 s hs
    obtain ⟨s'', d1, d2, d3, d4⟩ := b2 s' c1
    exact ⟨s'', d1, by rw [d2, c2], by rw [d3, c3], fun e eh => by rw [d4 e eh, c4 e (h2 e eh).1]⟩

theorem Pres.refl (n : Nat) (w : World) (I : Imm) (σ : Nat → Value) (H : Heap) : Pres n w I σ H w I σ H :=
  ⟨Imm.le_refl I, fun _ ob' _ h => ⟨ob', h, ObjPres.refl _ _ _ _⟩, fun _ _ _ => rfl, fun _ _ _ _ _ _ _ => rfl⟩

theorem Pres.trans {w1 w2 w3 : World} {I1 I2 I3 : Imm} {σ1 σ2 σ3 : Nat → Value} {H1 H2 H3 : Heap} {n : Nat} (h : Pres n w1 I1 σ1 H1 w2 I2 σ2 H2) (k : Pres n w2 I2 σ2 H2 w3 I3 σ3 H3) : Pres n w1 I1 σ1 H1 w3 I3 σ3 H3 := by
  refine ⟨Imm.le_trans h.imm k.imm, fun id ob'' hn h3 => ?_, fun id hn h1 => ?_, fun id ob ob'' hn h1 h3 hok => ?_⟩
  · obtain ⟨ob', h2, p2⟩ := k.obj id ob'' hn h3
    obtain ⟨ob, h1, p1⟩ := h.obj id ob' hn h2
    exact ⟨ob, h1, p1.trans p2⟩
  · rw [k.sig id hn ?_, h.sig id hn h1]
    cases h2 : H2 id with
    | none => rfl
    | some o => obtain ⟨ob, h3, _⟩ := h.obj id o hn h2; rw [h1] at h3; simp at h3
  · obtain ⟨ob', h2, p2⟩ := k.obj id ob'' hn h3
    obtain ⟨ob0, h0, p1⟩ := h.obj id ob' hn h2
    rw [h1] at h0
    injection h0 with h0
    subst h0
    rw [k.hdl id ob' ob'' hn h2 h3 (by
      obtain ⟨es, e⟩ := p1.ev
      unfold Obj.ok at hok ⊢
      rw [List.all_eq_true] at hok ⊢
      intro x hx
      refine hok x ?_
      rw [e, List.length_append, ← List.drop_drop] at hx
      exact List.mem_of_mem_drop hx), h.hdl id ob ob' hn h1 h2 (p2.ok true [] _ p1.len hok)]

theorem Pres.less {m : Nat} (h : Pres n w I σ H w' I' σ' H') (hm : m ≤ n) : Pres m w I σ H w' I' σ' H' := ⟨h.imm, fun id ob' hn => h.obj id ob' (by omega), fun id hn => h.sig id (by omega), fun id ob ob' hn => h.hdl id ob ob' (by omega)⟩
end

end Go.Ev

namespace Go.Ev

theorem cast_list {A B : Type} (h : A = B) (l : List A) (k : List A = List B) : cast k l = l.map (cast h) := by
  subst h; exact (List.map_id' l).symm
theorem cast_prod {A B C D : Type} (h : A = B) (g : C = D) (x : A × C) (k : (A × C) = (B × D)) : cast k x = (cast h x.1, cast g x.2) := by
  subst h; subst g; simp
theorem All3.map_b {A B C D : Type} {R : A → B → C → Prop} {R' : A → D → C → Prop} {f : B → D} : ∀ {as : List A} {bs : List B} {cs : List C}, All3 R as bs cs → (∀ a b c, c ∈ cs → R a b c → R' a (f b) c) → All3 R' as (bs.map f) cs
  | [], [], [], _, _ => trivial
  | a :: as, b :: bs, c :: cs, h, k => ⟨k a b c (by simp) h.1, All3.map_b h.2 fun a b c hc => k a b c (List.mem_cons_of_mem _ hc)⟩
  | [], [], _ :: _, h, _ | [], _ :: _, _, h, _ | _ :: _, [], _, h, _ | _ :: _, _ :: _, [], h, _ => h.elim

theorem may_pure {m : Nat → Nat → Bool} : ∀ {t u : Ty}, t.may m u = true → t.pure = true → u.pure = true := by
  intro t
  induction t with
  | int k => intro u h _; cases u <;> simp_all [Ty.may, Ty.pure]
  | bool => intro u h _; cases u <;> simp_all [Ty.may, Ty.pure]
  | str => intro u h _; cases u <;> simp_all [Ty.may, Ty.pure]
  | unit => intro u h _; cases u <;> simp_all [Ty.may, Ty.pure]
  | one t ih => intro u h hp; cases u <;> simp [Ty.may] at h; simp only [Ty.pure] at hp ⊢; exact ih h hp
  | pair a b iha ihb => intro u h hp; cases u <;> simp [Ty.may] at h; simp only [Ty.pure, Bool.and_eq_true] at hp ⊢; exact ⟨iha h.1 hp.1, ihb h.2 hp.2⟩
  | arr n t ih => intro u h hp; cases u <;> simp [Ty.may] at h; simp only [Ty.pure] at hp ⊢; exact ih h.2 hp
  | list t ih => intro u h hp; cases u <;> simp [Ty.may] at h; simp only [Ty.pure] at hp ⊢; exact ih h hp
  | vec s t _ => intro u _ hp; simp [Ty.pure] at hp
  | map k v _ _ => intro u _ hp; simp [Ty.pure] at hp
  | box t _ => intro u _ hp; simp [Ty.pure] at hp
  | ref i => intro u _ hp; simp [Ty.pure] at hp
  | nil => intro u _ hp; simp [Ty.pure] at hp
  | hole n => intro u _ hp; simp [Ty.pure] at hp

theorem may_width {m : Nat → Nat → Bool} : ∀ {t u : Ty}, t.may m u = true → u.width = t.width := by
  intro t
  induction t with
  | one t ih => intro u h; cases u <;> simp [Ty.may] at h; simp only [Ty.width]; exact ih h
  | pair a b iha ihb => intro u h; cases u <;> simp [Ty.may] at h; simp only [Ty.width]; rw [iha h.1, ihb h.2]
  | arr n t ih => intro u h; cases u <;> simp [Ty.may] at h; simp only [Ty.width]; rw [ih h.2, h.1]
  | int k => intro u h; cases u <;> simp_all [Ty.may, Ty.width]
  | bool => intro u h; cases u <;> simp_all [Ty.may, Ty.width]
  | str => intro u h; cases u <;> simp_all [Ty.may, Ty.width]
  | unit => intro u h; cases u <;> simp_all [Ty.may, Ty.width]
  | list t ih => intro u h; cases u <;> simp_all [Ty.may, Ty.width]
  | vec s t ih => intro u h; cases u <;> simp_all [Ty.may, Ty.width]
  | map k v _ _ => intro u h; cases u <;> simp_all [Ty.may, Ty.width]
  | box t _ => intro u h; cases u <;> simp_all [Ty.may, Ty.width]
  | ref i => intro u h; cases u <;> simp_all [Ty.may, Ty.width]
  | nil => intro u h; cases u <;> simp_all [Ty.may, Ty.width]
  | hole n => intro u h; cases u <;> simp_all [Ty.may, Ty.width]

/-- More is hard than was: what is new lies in some blocks, and holds what is there. -/
structure Harder (w : World) (I I' : Imm) (ow : List Nat) : Prop where
  le : I.le I'
  out : ∀ b, b ∉ ow → ∀ j, I' b j = I b j
  imm : ∀ b j v, I' b j = some v → I b j = some v ∨ w.cell? ⟨b, j, none⟩ = some v

theorem Harder.refl (w : World) (I : Imm) (ow : List Nat) : Harder w I I ow := ⟨Imm.le_refl I, fun _ _ _ => rfl, fun _ _ _ h => .inl h⟩
theorem Harder.trans {w : World} {I1 I2 I3 : Imm} {a b c : List Nat} (h : Harder w I1 I2 a) (k : Harder w I2 I3 b) (ha : ∀ x ∈ a, x ∈ c) (hb : ∀ x ∈ b, x ∈ c) : Harder w I1 I3 c :=
  ⟨Imm.le_trans h.le k.le, fun x hx j => by rw [k.out x (fun e => hx (hb x e)), h.out x (fun e => hx (ha x e))],
    fun x j v hv => by rcases k.imm x j v hv with e | e; exact h.imm x j v e; exact .inr e⟩

section
variable {w : World} {σ σ' : Nat → Value} {m : Nat → Nat → Bool}

def hardened (I : Imm) (b : Nat) (es : List Value) (n : Nat) : Imm := fun b' j => if b' = b ∧ j < n then es[j]? else I b' j

theorem cell_blk {b j : Nat} {es : Array Value} (h : Blk w b es) {v : Value} (hv : es.toList[j]? = some v) : w.cell? ⟨b, j, none⟩ = some v := by
  obtain ⟨eid, h⟩ := h
  simp only [World.cell?, h]
  simpa using hv

theorem hardened_harder {I : Imm} {b n : Nat} {es : Array Value} (h : Blk w b es) (hn : ∀ j, I b j = none) {ow : List Nat} (hb : b ∈ ow) : Harder w I (hardened I b es.toList n) ow := by
  refine ⟨fun b' j v hv => ?_, fun b' hb' j => ?_, fun b' j v hv => ?_⟩
  · unfold hardened
    split
    · rename_i e; rw [e.1, hn] at hv; simp at hv
    · exact hv
  · unfold hardened; rw [if_neg]; rintro ⟨rfl, _⟩; exact hb' hb
  · unfold hardened at hv
    split at hv
    · rename_i e; obtain ⟨rfl, _⟩ := e; exact .inr (cell_blk h hv)
    · exact .inl hv

/-- One after the other, each by what it owns. -/
theorem harden_all {t u : Ty} {f : t.den → u.den} (step : ∀ (I : Imm) (c : List Value) (x : t.den) (o : List Nat), TRep w I σ t c x o → o.Nodup → ∃ I' o', Harder w I I' o ∧ TRep w I' σ' u c (f x) o' ∧ o'.Sublist o) :
    ∀ (css : List (List Value)) (xs : List t.den) (ows : List (List Nat)) (I : Imm), All3 (TRep w I σ t) css xs ows → ows.flatten.Nodup →
      ∃ I' ows', Harder w I I' ows.flatten ∧ All3 (TRep w I' σ' u) css (xs.map f) ows' ∧ ows'.flatten.Sublist ows.flatten := by
  intro css
  induction css with
  | nil =>
    intro xs ows I h hn
    cases xs <;> cases ows <;> first | exact h.elim | exact ⟨I, [], Harder.refl _ _ _, trivial, by simp⟩
  | cons c css ih =>
    intro xs ows I h hn
    cases xs with
    | nil => cases ows <;> exact h.elim
    | cons x xs =>
    cases ows with
    | nil => exact h.elim
    | cons o ows =>
    simp only [List.flatten_cons] at hn ⊢
    obtain ⟨n1, n2, n3⟩ := List.nodup_append.1 hn
    obtain ⟨I1, o', k1, k2, k3⟩ := step I c x o h.1 n1
    have h2 : All3 (TRep w I1 σ t) css xs ows := h.2.mono fun a b cc hcc _ hh => hh.frame k1.le (fun d hd => ⟨rfl, fun j => k1.out d (fun e => n3 _ e _ (List.mem_flatten.2 ⟨cc, hcc, hd⟩) rfl) j⟩) (fun _ _ => rfl)
    obtain ⟨I2, ows', g1, g2, g3⟩ := ih xs ows I1 h2 n2
    refine ⟨I2, o' :: ows', k1.trans g1 (fun x hx => by simp [hx]) (fun x hx => by simp only [List.mem_append]; exact .inr hx), ⟨k2.frame g1.le (fun d hd => ⟨rfl, fun j => g1.out d (fun e => n3 _ (k3.subset hd) _ e rfl) j⟩) (fun _ _ => rfl), g2⟩, ?_⟩
    simp only [List.flatten_cons]
    exact k3.append g3

theorem take_drop_eq {α : Type} {l m : List α} {n : Nat} (h : m = l.take n) {j : Nat} {v : α} (hv : m[j]? = some v) : l[j]? = some v ∧ j < n := by
  subst h
  rw [List.getElem?_take] at hv
  split at hv
  · exact ⟨hv, by assumption⟩
  · simp at hv

theorem TRep.as (hm : ∀ i j, m i j = true → σ' j = σ i) : ∀ {t u : Ty} (_ : t.may m u = true) (he : t.erase = u.erase) (I : Imm) (cs : List Value) (x : t.den) (ow : List Nat), TRep w I σ t cs x ow → ow.Nodup →
    ∃ I' ow', Harder w I I' ow ∧ TRep w I' σ' u cs (cast (Ty.den_of_erase he) x) ow' ∧ ow'.Sublist ow := by
  intro t
  induction t with
  | int k =>
    intro u h he I cs x ow hr hn
    cases u <;> simp [Ty.may] at h
    subst h
    exact ⟨I, ow, Harder.refl _ _ _, by simpa [TRep] using hr, List.Sublist.refl _⟩
  | bool => intro u h he I cs x ow hr hn; cases u <;> simp [Ty.may] at h; exact ⟨I, ow, Harder.refl _ _ _, by simpa [TRep] using hr, List.Sublist.refl _⟩
  | str => intro u h he I cs x ow hr hn; cases u <;> simp [Ty.may] at h; exact ⟨I, ow, Harder.refl _ _ _, by simpa [TRep] using hr, List.Sublist.refl _⟩
  | unit => intro u h he I cs x ow hr hn; cases u <;> simp [Ty.may] at h; exact ⟨I, ow, Harder.refl _ _ _, by simpa [TRep] using hr, List.Sublist.refl _⟩
  | nil => intro u h he I cs x ow hr hn; cases u <;> simp [Ty.may] at h; exact ⟨I, ow, Harder.refl _ _ _, by simpa [TRep] using hr, List.Sublist.refl _⟩
  | hole n => intro u h he I cs x ow hr hn; cases u <;> simp [Ty.may] at h; subst h; exact ⟨I, ow, Harder.refl _ _ _, by simpa [TRep] using hr, List.Sublist.refl _⟩
  | map k v _ _ => intro u h he I cs x ow hr hn; exact hr.elim
  | ref i =>
    intro u h he I cs x ow hr hn
    cases u <;> simp [Ty.may] at h
    obtain ⟨rfl, a, h1, h2, h3⟩ := hr
    exact ⟨I, [], Harder.refl _ _ _, ⟨rfl, a, h1, h2, by rw [hm _ _ h]; exact h3⟩, List.Sublist.refl _⟩
  | one t ih =>
    intro u h he I cs x ow hr hn
    cases u <;> simp [Ty.may] at h
    rename_i u
    simp only [Ty.erase, Ty.one.injEq] at he
    exact ih h he I cs x ow hr hn
  | pair a b iha ihb =>
    intro u h he I cs x ow hr hn
    cases u <;> simp [Ty.may] at h
    rename_i a' b'
    simp only [Ty.erase, Ty.pair.injEq] at he
    obtain ⟨c1, c2, o1, o2, rfl, rfl, h1, h2⟩ := hr
    obtain ⟨n1, n2, n3⟩ := List.nodup_append.1 hn
    obtain ⟨I1, o1', k1, k2, k3⟩ := iha h.1 he.1 I c1 x.1 o1 h1 n1
    have h2' : TRep w I1 σ b c2 x.2 o2 := h2.frame k1.le (fun d hd => ⟨rfl, fun j => k1.out d (fun e => n3 _ e _ hd rfl) j⟩) (fun _ _ => rfl)
    obtain ⟨I2, o2', g1, g2, g3⟩ := ihb h.2 he.2 I1 c2 x.2 o2 h2' n2
    refine ⟨I2, o1' ++ o2', k1.trans g1 (fun x hx => by simp [hx]) (fun x hx => by simp [hx]), ?_, k3.append g3⟩
    rw [cast_prod (Ty.den_of_erase he.1) (Ty.den_of_erase he.2)]
    exact ⟨c1, c2, o1', o2', rfl, rfl, k2.frame g1.le (fun d hd => ⟨rfl, fun j => g1.out d (fun e => n3 _ (k3.subset hd) _ e rfl) j⟩) (fun _ _ => rfl), g2⟩
  | arr n t ih =>
    intro u h he I cs x ow hr hn
    cases u <;> simp [Ty.may] at h
    rename_i n' u
    obtain ⟨rfl, h⟩ := h
    simp only [Ty.erase, Ty.arr.injEq, true_and] at he
    obtain ⟨css, ows, rfl, rfl, hl, ha⟩ := hr
    obtain ⟨I', ows', g1, g2, g3⟩ := harden_all (f := cast (Ty.den_of_erase he)) (fun I c x o hh ho => ih h he I c x o hh ho) css x ows I ha hn
    rw [cast_list (Ty.den_of_erase he)]
    exact ⟨I', _, g1, ⟨css, ows', rfl, rfl, by simpa using hl, g2⟩, g3⟩
  | list t ih =>
    intro u h he I cs x ow hr hn
    cases u <;> simp [Ty.may] at h
    rename_i u
    simp only [Ty.erase, Ty.list.injEq] at he
    obtain ⟨rfl, hp, a, cap, css, ows, rfl, h1, h2, ha, hi⟩ := hr
    have hows : ows.flatten = [] := flatten_nil fun o ho => by obtain ⟨_, _, _, _, hh⟩ := All3.mem_r ha o ho; exact hh.pure_ow hp
    obtain ⟨I', ows', g1, g2, g3⟩ := harden_all (f := cast (Ty.den_of_erase he)) (fun I c x o hh ho => ih h he I c x o hh ho) css x ows I ha (by rw [hows]; simp)
    rw [cast_list (Ty.den_of_erase he)]
    refine ⟨I', [], by rw [hows] at g1; exact g1, ⟨rfl, may_pure h hp, a, cap, css, ows', by simp, by simpa using h1, h2, g2, fun hx => ?_⟩, List.Sublist.refl _⟩
    obtain ⟨b, o, e, hj⟩ := hi (by intro e; exact hx (by rw [e]; rfl))
    exact ⟨b, o, e, fun j v hv => g1.le _ _ _ (hj j v hv)⟩
  | vec s t ih =>
    intro u h he I cs x ow hr hn
    cases u <;> simp [Ty.may] at h
    · -- a plain list
      rename_i u
      simp only [Ty.erase, Ty.list.injEq] at he
      obtain ⟨a, cap, rfl, h1, h2, hr⟩ := hr
      rw [cast_list (Ty.den_of_erase he)]
      rcases hr with ⟨rfl, rfl, rfl, rfl⟩ | ⟨b, es, css, ows, rfl, hblk, hes, hcs, rfl, ha, hi, hs⟩
      · exact ⟨I, [], Harder.refl _ _ _, ⟨rfl, h.2, none, 0, [], [], by simp, by simp, by decide, trivial, fun hx => by simp at hx⟩, List.Sublist.refl _⟩
      · obtain ⟨n1, n2⟩ := List.nodup_cons.1 hn
        obtain ⟨I1, ows', g1, g2, g3⟩ := harden_all (f := cast (Ty.den_of_erase he)) (fun I c x o hh ho => ih h.1 he I c x o hh ho) css x ows I ha n2
        cases s with
        | true =>
          obtain ⟨hs1, hs2⟩ := hs rfl
          refine ⟨I1, [], g1.trans (Harder.refl _ _ []) (fun x hx => by simp [hx]) (fun x hx => by simp at hx), ⟨rfl, h.2, some ⟨b, 0, none⟩, cap, css, ows', by simp, by simpa using h1, h2, g2, fun _ => ⟨b, 0, rfl, fun j v hv => ?_⟩⟩, by simp⟩
          rw [Nat.zero_add]; exact g1.le _ _ _ (hs2 j v hv)
        | false =>
          have hI1 : ∀ j, I1 b j = none := fun j => by
            rw [g1.out b n1]
            cases hv : I b j with
            | none => rfl
            | some v => have := (hi j v hv).1; simp at this
          have hh := hardened_harder (n := (x : List t.den).length * t.width) hblk hI1 (ow := b :: ows.flatten) (by simp)
          have hows' : ∀ o ∈ ows', o = [] := fun o ho => by obtain ⟨_, _, _, _, hh⟩ := All3.mem_r g2 o ho; exact hh.pure_ow h.2
          refine ⟨_, [], g1.trans hh (fun x hx => by simp only [List.mem_cons]; exact .inr hx) (fun x hx => hx), ⟨rfl, h.2, some ⟨b, 0, none⟩, cap, css, ows', by simp, by simpa using h1, h2, ?_, fun _ => ⟨b, 0, rfl, fun j v hv => ?_⟩⟩, by simp⟩
          · exact g2.mono fun _ _ _ _ _ hk => hk.lift hh.le h.2
          · rw [Nat.zero_add]
            obtain ⟨k1, k2⟩ := take_drop_eq hcs hv
            unfold hardened; rw [if_pos ⟨rfl, k2⟩]; exact k1
    · rename_i s' u
      simp only [Ty.erase, Ty.list.injEq] at he
      obtain ⟨a, cap, rfl, h1, h2, hr⟩ := hr
      rw [cast_list (Ty.den_of_erase he)]
      rcases hr with ⟨rfl, rfl, rfl, rfl⟩ | ⟨b, es, css, ows, rfl, hblk, hes, hcs, rfl, ha, hi, hs⟩
      · exact ⟨I, [], Harder.refl _ _ _, ⟨none, 0, by simp, by simp, by decide, .inl ⟨rfl, by simp, rfl, rfl⟩⟩, List.Sublist.refl _⟩
      · obtain ⟨n1, n2⟩ := List.nodup_cons.1 hn
        obtain ⟨I1, ows', g1, g2, g3⟩ := harden_all (f := cast (Ty.den_of_erase he)) (fun I c x o hh ho => ih h.1 he I c x o hh ho) css x ows I ha n2
        have hw := may_width h.1
        by_cases hss : s = s'
        · subst hss
          refine ⟨I1, b :: ows'.flatten, g1.trans (Harder.refl _ _ []) (fun x hx => by simp only [List.mem_cons]; exact .inr hx) (fun x hx => by simp at hx), ⟨some ⟨b, 0, none⟩, cap, by simp, by simpa using h1, h2, .inr ⟨b, es, css, ows', rfl, hblk, by rw [hw]; exact hes, by rw [hw]; simpa using hcs, rfl, g2, fun j v hv => ?_, fun e => ?_⟩⟩, g3.cons_cons b⟩
          · rw [g1.out b n1] at hv; rw [hw]; simpa using hi j v hv
          · obtain ⟨hs1, hs2⟩ := hs e
            exact ⟨may_pure h.1 hs1, fun j v hv => g1.le _ _ _ (hs2 j v hv)⟩
        · have hs2 : s' = true ∧ u.pure = true := by
            rcases h.2 with e | e
            · exact absurd e hss
            · exact e
          obtain ⟨rfl, hup⟩ := hs2
          have hsf : s = false := by cases s <;> simp_all
          subst hsf
          have hI1 : ∀ j, I1 b j = none := fun j => by
            rw [g1.out b n1]
            cases hv : I b j with
            | none => rfl
            | some v => have := (hi j v hv).1; simp at this
          have hh := hardened_harder (n := (x : List t.den).length * t.width) hblk hI1 (ow := b :: ows.flatten) (by simp)
          have hows' : ows'.flatten = [] := flatten_nil fun o ho => by obtain ⟨_, _, _, _, hh⟩ := All3.mem_r g2 o ho; exact hh.pure_ow hup
          refine ⟨_, b :: ows'.flatten, g1.trans hh (fun x hx => by simp only [List.mem_cons]; exact .inr hx) (fun x hx => hx), ⟨some ⟨b, 0, none⟩, cap, by simp, by simpa using h1, h2, .inr ⟨b, es, css, ows', rfl, hblk, by rw [hw]; exact hes, by rw [hw]; simpa using hcs, rfl, ?_, fun j v hv => ?_, fun _ => ⟨hup, fun j v hv => ?_⟩⟩⟩, g3.cons_cons b⟩
          · exact g2.mono fun _ _ _ _ _ hk => hk.lift hh.le hup
          · unfold hardened at hv
            split at hv
            · rename_i e; rw [hw]; simpa using e.2
            · rw [hI1] at hv; simp at hv
          · obtain ⟨k1, k2⟩ := take_drop_eq hcs hv
            unfold hardened; rw [if_pos ⟨rfl, k2⟩]; exact k1
  | box t ih =>
    intro u h he I cs x ow hr hn
    cases u <;> simp [Ty.may] at h
    rename_i u
    simp only [Ty.erase, Ty.box.injEq] at he
    obtain ⟨b, es, o, rfl, hblk, rfl, ht, hi⟩ := hr
    obtain ⟨n1, n2⟩ := List.nodup_cons.1 hn
    obtain ⟨I', o', g1, g2, g3⟩ := ih h he I es.toList x o ht n2
    exact ⟨I', b :: o', g1.trans (Harder.refl _ _ []) (fun x hx => by simp [hx]) (fun x hx => by simp at hx), ⟨b, es, o', rfl, hblk, rfl, g2, fun j => by rw [g1.out b n1]; exact hi j⟩, g3.cons_cons b⟩
end

end Go.Ev

namespace Go.Ev

abbrev Own := Nat → List Nat

structure SRel (n : Nat) (w : World) (I : Imm) (σ : Nat → Value) (H : Heap) (own : Own) : Prop where
  imm : ∀ b j v, I b j = some v → w.cell? ⟨b, j, none⟩ = some v
  rep : ∀ id o, H id = some o → TRep w I σ o.t [σ id] o.x (own id)
  nd : ∀ id o, H id = some o → (own id).Nodup
  dj : ∀ i j oi oj, i ≠ j → H i = some oi → H j = some oj → ∀ b ∈ own i, b ∉ own j
  lt : ∀ id o, H id = some o → id < n ∧ ∀ j ∈ o.t.refs, j < n

structure Kept (w w' : World) (I I' : Imm) (O : Nat → Prop) : Prop where
  os : w'.os = w.os
  tape : w'.tape = w.tape
  output : w'.output = w.output
  size : w.heap.size ≤ w'.heap.size
  blk : ∀ b, b < w.heap.size → ¬ O b → w'.heap[b]? = w.heap[b]? ∧ ∀ j, I' b j = I b j
  le : I.le I'

theorem Kept.refl (w : World) (I : Imm) (O : Nat → Prop) : Kept w w I I O := ⟨rfl, rfl, rfl, Nat.le_refl _, fun _ _ _ => ⟨rfl, fun _ => rfl⟩, Imm.le_refl I⟩
theorem Kept.trans {w1 w2 w3 : World} {I1 I2 I3 : Imm} {O O' : Nat → Prop} (h : Kept w1 w2 I1 I2 O) (k : Kept w2 w3 I2 I3 O') (hO : ∀ b, O' b → O b ∨ w1.heap.size ≤ b) : Kept w1 w3 I1 I3 O := by
  refine ⟨by rw [k.os, h.os], by rw [k.tape, h.tape], by rw [k.output, h.output], Nat.le_trans h.size k.size, fun b hb hn => ?_, Imm.le_trans h.le k.le⟩
  obtain ⟨h1, h2⟩ := h.blk b hb hn
  obtain ⟨k1, k2⟩ := k.blk b (Nat.lt_of_lt_of_le hb h.size) (fun e => by rcases hO b e with e | e; exact hn e; omega)
  exact ⟨by rw [k1, h1], fun j => by rw [k2, h2]⟩
theorem Kept.mono {w w' : World} {I I' : Imm} {O O' : Nat → Prop} (h : Kept w w' I I' O) (hO : ∀ b, O b → O' b) : Kept w w' I I' O' :=
  ⟨h.os, h.tape, h.output, h.size, fun b hb hn => h.blk b hb fun e => hn (hO b e), h.le⟩

/-- What was there when a walk began. -/
structure Start where
  w : World
  I : Imm
  σ : Nat → Value
  H : Heap
  O : Nat → Prop

structure Inv (S : Start) (n : Nat) (w : World) (I : Imm) (σ : Nat → Value) (H : Heap) (own : Own) (loose : List Nat) : Prop where
  rel : SRel n w I σ H own
  kept : Kept S.w w S.I I S.O
  owns : ∀ id o, H id = some o → ∀ b ∈ own id, S.O b ∨ S.w.heap.size ≤ b
  lnd : loose.Nodup
  ldj : ∀ id o, H id = some o → ∀ b ∈ loose, b ∉ own id
  lown : ∀ b ∈ loose, (S.O b ∨ S.w.heap.size ≤ b) ∧ b < w.heap.size
  hdl : ∀ id o0 o, S.H id = some o0 → H id = some o → o.ok true [] 0 = true → σ id = S.σ id

theorem TRep.own_lt {w : World} {I : Imm} {σ : Nat → Value} : ∀ {t : Ty} {cs : List Value} {x : t.den} {ow : List Nat}, TRep w I σ t cs x ow → ∀ b ∈ ow, b < w.heap.size
  | .int _, _, _, _, h, b, hb => by rw [h.1] at hb; simp at hb
  | .bool, _, _, _, h, b, hb => by rw [h.1] at hb; simp at hb
  | .str, _, _, _, h, b, hb => by rw [h.1] at hb; simp at hb
  | .unit, _, _, _, h, b, hb => by rw [h.1] at hb; simp at hb
  | .one t, _, _, _, h, b, hb => TRep.own_lt (t := t) h b hb
  | .pair a c, _, _, _, h, b, hb => by
    obtain ⟨c1, c2, o1, o2, rfl, rfl, h1, h2⟩ := h
    rcases List.mem_append.1 hb with hb | hb
    · exact TRep.own_lt h1 b hb
    · exact TRep.own_lt h2 b hb
  | .arr n t, _, _, _, h, b, hb => by
    obtain ⟨css, ows, _, rfl, _, ha⟩ := h
    obtain ⟨o, ho, hb⟩ := List.mem_flatten.1 hb
    obtain ⟨_, _, _, _, hh⟩ := All3.mem_r ha o ho
    exact TRep.own_lt (t := t) hh b hb
  | .list _, _, _, _, h, b, hb => by rw [h.1] at hb; simp at hb
  | .vec _ t, _, _, _, h, b, hb => by
    obtain ⟨a, cap, _, _, _, h⟩ := h
    rcases h with ⟨_, _, _, rfl⟩ | ⟨b0, es, css, ows, _, ⟨eid, hblk⟩, _, _, rfl, ha, _⟩
    · simp at hb
    · rcases List.mem_cons.1 hb with rfl | hb
      · exact (Array.getElem?_eq_some_iff.1 hblk).1
      · obtain ⟨o, ho, hb⟩ := List.mem_flatten.1 hb
        obtain ⟨_, _, _, _, hh⟩ := All3.mem_r ha o ho
        exact TRep.own_lt (t := t) hh b hb
  | .map _ _, _, _, _, h, _, _ => h.elim
  | .box t, _, _, _, h, b, hb => by
    obtain ⟨b0, es, o, _, ⟨eid, hblk⟩, rfl, ht, _⟩ := h
    rcases List.mem_cons.1 hb with rfl | hb
    · exact (Array.getElem?_eq_some_iff.1 hblk).1
    · exact TRep.own_lt ht b hb
  | .ref _, _, _, _, h, b, hb => by rw [h.1] at hb; simp at hb
  | .nil, _, _, _, h, b, hb => by rw [h.1] at hb; simp at hb
  | .hole _, _, _, _, h, b, hb => by rw [h.1] at hb; simp at hb

theorem ObjPres.same {w w' : World} {I : Imm} {σ σ' : Nat → Value} {ob : Obj} {id : Nat} {ow : List Nat} (hr : TRep w I σ ob.t [σ id] ob.x ow) (hb : ∀ b ∈ ow, w'.heap[b]? = w.heap[b]?) (hs : σ' id = σ id) :
    ObjPres w σ ob w' σ' ob id :=
  ⟨⟨[], by simp⟩, fun _ p _ _ _ u' hu' => ⟨u', hu', fun _ h => ⟨h, rfl⟩, fun hi => ⟨hi, fun s h => ⟨s, by rw [hs, spot_frame p false none 0 hr hb hu' hi]; exact h, rfl, rfl, fun _ _ => rfl⟩⟩⟩⟩

/-- Which events a change at a place asks for: below a leaf nothing is known; a handle that is another one is told. -/
def EvOk (es : List (Bool × Path)) (q : Path) (u u' : Ty) (sameCells : Prop) : Prop :=
  (es = [] ∧ u'.leaf = true) ∨ es = [(true, q)] ∨ (es = [(false, q)] ∧ sameCells ∧ (u'.handle = true → u.handle = true ∧ u.hk = u'.hk))

theorem ObjPres.set {w w' : World} {I : Imm} {σ : Nat → Value} {ob : Obj} {id : Nat} {ow : List Nat} {q : Path} {u : Ty} {y : u.den} {s : Spot} {ou pre post : List Nat} {lh : Bool} {u' z : TV} {cu : List Value} {es : List (Bool × Path)}
    (hr : TRep w I σ ob.t [σ id] ob.x ow) (hn : ow.Nodup) (hg : ob.t.get ob.x q = some ⟨u, y⟩) (F : Focus w I σ ob.t [σ id] ob.x ow q u y false none 0 s ou pre post lh)
    (hset : ob.t.set ob.x q u' = some z) (hw : u'.t.width = u.width) (hcu : cu.length = u.width) (hbl : ∀ c ∈ pre ++ post, BlkTo w w' lh s cu c) (hcs : (if lh then [σ id] else splice [σ id] s.off cu) = [σ id])
    (hes : EvOk es q u u'.t (∀ p v, ob.t.get ob.x p = some v → Inb ob.t ob.x p → spot w' ob.t [σ id] false none 0 p = spot w ob.t [σ id] false none 0 p)) :
    ObjPres w σ ob w' σ ⟨z.t, z.x, ob.ev ++ es⟩ id := by
  refine ⟨⟨es, rfl⟩, fun hdr p ver hv hok v' hv' => ?_⟩
  rw [ok_app (ob := ob) (es := es) rfl hv, Bool.and_eq_true] at hok
  have hab : Path.above q p = false := by
    rcases hes with ⟨rfl, hl⟩ | rfl | ⟨rfl, _⟩
    · cases ha : Path.above q p with
      | false => rfl
      | true => have := below_leaf q _ _ _ _ hset hl p ha; simp only at hv'; rw [this] at hv'; simp at hv'
    · have := hok.2
      simp only [List.all_cons, List.all_nil, Bool.and_true, hit] at this
      cases ha : Path.above q p with
      | false => rfl
      | true => simp [ha] at this
    · have := hok.2
      simp only [List.all_cons, List.all_nil, Bool.and_true, hit] at this
      cases ha : Path.above q p with
      | false => rfl
      | true => simp [ha] at this
  obtain ⟨⟨v, h1, h2⟩, h3, h4⟩ := stabT q _ _ _ _ _ hg hw hset p v' hab hv'
  have hsim : hdr = true → v'.t.handle = true → (Path.sim q p = false ∨ (es = [(false, q)])) := by
    intro e eh
    rcases hes with ⟨rfl, hl⟩ | rfl | ⟨rfl, _⟩
    · cases hs : Path.sim q p with
      | false => exact .inl rfl
      | true =>
        have := sim_type q _ _ _ _ hset p v' hs hv'
        rw [this] at eh
        cases ht : u'.t <;> simp [ht, Ty.leaf, Ty.handle] at hl eh
    · have := hok.2
      subst e
      simp only [List.all_cons, List.all_nil, Bool.and_true, hit, Bool.true_and, Bool.not_eq_true', Bool.or_eq_false_iff] at this
      exact .inl this.2
    · exact .inr rfl
  refine ⟨v, h1, fun e eh => ?_, fun hi => ⟨h3 hi, fun s1 hs1 => ?_⟩⟩
  · refine h2 ?_ eh
    rcases hsim e eh with h | h
    · exact .inl h
    · rcases hes with ⟨rfl, _⟩ | rfl | ⟨_, _, hh⟩
      · simp at h
      · simp at h
      · exact .inr hh
  · obtain ⟨s1', s2, k1, k2, k3⟩ := F.stab w' cu hcu hbl p v hab h1 hi
    rw [Nat.sub_zero, hcs] at k2
    rw [hs1] at k1
    injection k1 with k1
    subst k1
    refine ⟨s2, by rw [h4]; exact k2, k3.blk, k3.off, fun e eh => ?_⟩
    rcases hsim e eh with h | h
    · refine k3.cells ?_
      have := (h2 (.inl h) eh).1
      rw [this, h]; rfl
    · rcases hes with ⟨rfl, _⟩ | rfl | ⟨_, hsame, _⟩
      · simp at h
      · simp at h
      · rw [hsame p v h1 hi, hs1] at k2
        injection k2 with k2
        rw [k2]

theorem put_self (H : Heap) (id : Nat) (o : Option Obj) : H.put id o id = o := by simp [Heap.put]
theorem put_ne (H : Heap) {id j : Nat} (o : Option Obj) (h : j ≠ id) : H.put id o j = H j := by simp [Heap.put, h]

section
variable {S : Start} {n n' : Nat} {w w' : World} {I I' : Imm} {σ : Nat → Value} {H : Heap} {own : Own} {loose : List Nat}

/-- What is owned is not loose, nor another one's. -/
theorem Inv.disj (R : Inv S n w I σ H own loose) {i j : Nat} {oi oj : Obj} (h : i ≠ j) (hi : H i = some oi) (hj : H j = some oj) : ∀ b ∈ own i, b ∉ own j := R.rel.dj i j oi oj h hi hj

theorem Inv.lt_size (R : Inv S n w I σ H own loose) {i : Nat} {oi : Obj} (hi : H i = some oi) : ∀ b ∈ own i, b < w.heap.size := (R.rel.rep i oi hi).own_lt

/-- An object that holds something else, of what it owned, of what was loose, and of what is new. -/
theorem Inv.set (R : Inv S n w I σ H own loose) {id : Nat} {ob ob' : Obj} (hob : H id = some ob) {own1 loose1 : List Nat}
    (hT : TRep w' I' σ ob'.t [σ id] ob'.x own1) (hnd : (own1 ++ loose1).Nodup) (hsub : ∀ b ∈ own1 ++ loose1, b ∈ own id ∨ b ∈ loose ∨ (w.heap.size ≤ b ∧ b < w'.heap.size))
    (hk : Kept w w' I I' fun b => b ∈ own id ∨ b ∈ loose) (himm : ∀ b j v, I' b j = some v → w'.cell? ⟨b, j, none⟩ = some v) (hrefs : ∀ j ∈ ob'.t.refs, j < n)
    (hp : ObjPres w σ ob w' σ ob' id) : Inv S n w' I' σ (H.put id (some ob')) (fun j => if j = id then own1 else own j) loose1 ∧ Pres n w I σ H w' I' σ (H.put id (some ob')) := by
  have hoth : ∀ j oj, j ≠ id → H j = some oj → ∀ b ∈ own j, w'.heap[b]? = w.heap[b]? ∧ ∀ k, I' b k = I b k := by
    intro j oj hj hoj b hb
    refine hk.blk b (R.lt_size hoj b hb) ?_
    rintro (e | e)
    · exact R.disj hj hoj hob b hb e
    · exact R.ldj j oj hoj b e hb
  have hdj1 : ∀ j oj, j ≠ id → H j = some oj → ∀ b ∈ own1 ++ loose1, b ∉ own j := by
    intro j oj hj hoj b hb hb'
    rcases hsub b hb with e | e | e
    · exact R.disj hj hoj hob b hb' e
    · exact R.ldj j oj hoj b e hb'
    · have := R.lt_size hoj b hb'; omega
  obtain ⟨hn1, hn2, hn3⟩ := List.nodup_append.1 hnd
  refine ⟨⟨⟨himm, fun j o hj => ?_, fun j o hj => ?_, fun i j oi oj hij hi hj b hb => ?_, fun j o hj => ?_⟩, ?_, fun j o hj b hb => ?_, hn2, fun j o hj b hb => ?_, fun b hb => ?_, fun j o0 o h0 hj hok => ?_⟩, hk.le, fun j o hn hj => ?_, fun _ _ _ => rfl, fun _ _ _ _ _ _ _ => rfl⟩
  · by_cases e : j = id
    · subst e; rw [put_self] at hj; injection hj with hj; subst hj; simpa using hT
    · rw [put_ne _ _ e] at hj
      rw [if_neg e]
      exact (R.rel.rep j o hj).frame hk.le (hoth j o e hj) (fun _ _ => rfl)
  · by_cases e : j = id
    · subst e; simpa using hn1
    · rw [put_ne _ _ e] at hj; rw [if_neg e]; exact R.rel.nd j o hj
  · by_cases e : i = id
    · subst e
      rw [put_ne _ _ (Ne.symm hij)] at hj
      rw [if_pos rfl] at hb
      rw [if_neg (Ne.symm hij)]
      exact hdj1 j oj (Ne.symm hij) hj b (by simp [hb])
    · rw [put_ne _ _ e] at hi
      rw [if_neg e] at hb
      by_cases e' : j = id
      · subst e'; rw [if_pos rfl]; intro hb'; exact hdj1 i oi e hi b (by simp [hb']) hb
      · rw [put_ne _ _ e'] at hj; rw [if_neg e']; exact R.disj hij hi hj b hb
  · by_cases e : j = id
    · subst e; rw [put_self] at hj; injection hj with hj; subst hj; exact ⟨(R.rel.lt j ob hob).1, hrefs⟩
    · rw [put_ne _ _ e] at hj; exact R.rel.lt j o hj
  · exact R.kept.trans hk fun b hb => by
      rcases hb with hb | hb
      · exact R.owns id ob hob b hb
      · exact (R.lown b hb).1
  · by_cases e : j = id
    · subst e
      rw [if_pos rfl] at hb
      rcases hsub b (by simp [hb]) with e | e | e
      · exact R.owns j ob hob b e
      · exact (R.lown b e).1
      · exact .inr (Nat.le_trans R.kept.size e.1)
    · rw [put_ne _ _ e] at hj; rw [if_neg e] at hb; exact R.owns j o hj b hb
  · by_cases e : j = id
    · subst e; rw [if_pos rfl]; intro hb'; exact hn3 b hb' b hb rfl
    · rw [put_ne _ _ e] at hj; rw [if_neg e]; exact hdj1 j o e hj b (by simp [hb])
  · rcases hsub b (by simp [hb]) with e | e | e
    · exact ⟨R.owns id ob hob b e, Nat.lt_of_lt_of_le (R.lt_size hob b e) hk.size⟩
    · exact ⟨(R.lown b e).1, Nat.lt_of_lt_of_le (R.lown b e).2 hk.size⟩
    · exact ⟨.inr (Nat.le_trans R.kept.size e.1), e.2⟩
  · by_cases e : j = id
    · subst e
      rw [put_self] at hj; injection hj with hj; subst hj
      exact R.hdl j o0 ob h0 hob (hp.ok true [] 0 (Nat.zero_le _) hok)
    · rw [put_ne _ _ e] at hj; exact R.hdl j o0 o h0 hj hok
  · by_cases e : j = id
    · subst e; rw [put_self] at hj; injection hj with hj; subst hj; exact ⟨ob, hob, hp⟩
    · rw [put_ne _ _ e] at hj
      exact ⟨o, hj, ObjPres.same (R.rel.rep j o hj) (fun b hb => (hoth j o e hj b hb).1) rfl⟩

/-- An object that is no more: what it owned is loose. -/
theorem Inv.drop (R : Inv S n w I σ H own loose) {id : Nat} {ob : Obj} (hob : H id = some ob) :
    Inv S n w I σ (H.put id none) own (own id ++ loose) ∧ Pres n w I σ H w I σ (H.put id none) := by
  have hne : ∀ {j o}, H.put id none j = some o → j ≠ id ∧ H j = some o := by
    intro j o h
    by_cases e : j = id
    · subst e; rw [put_self] at h; simp at h
    · rw [put_ne _ _ e] at h; exact ⟨e, h⟩
  refine ⟨⟨⟨R.rel.imm, fun j o hj => R.rel.rep j o (hne hj).2, fun j o hj => R.rel.nd j o (hne hj).2, fun i j oi oj hij hi hj => R.disj hij (hne hi).2 (hne hj).2, fun j o hj => R.rel.lt j o (hne hj).2⟩, R.kept,
    fun j o hj => R.owns j o (hne hj).2, ?_, fun j o hj b hb => ?_, fun b hb => ?_, fun j o0 o h0 hj hok => R.hdl j o0 o h0 (hne hj).2 hok⟩, Imm.le_refl I, fun j o _ hj => ⟨o, (hne hj).2, ObjPres.refl _ _ _ _⟩, fun _ _ _ => rfl, fun _ _ _ _ _ _ _ => rfl⟩
  · exact List.nodup_append.2 ⟨R.rel.nd id ob hob, R.lnd, fun a ha b hb e => by subst e; exact R.ldj id ob hob a hb ha⟩
  · rcases List.mem_append.1 hb with hb | hb
    · exact R.disj (Ne.symm (hne hj).1) hob (hne hj).2 b hb
    · exact R.ldj j o (hne hj).2 b hb
  · rcases List.mem_append.1 hb with hb | hb
    · exact ⟨R.owns id ob hob b hb, R.lt_size hob b hb⟩
    · exact R.lown b hb

/-- A new object, of what was loose and of what is new. -/
theorem Inv.new (R : Inv S n w I σ H own loose) {id : Nat} (hid : n ≤ id) (hid' : id < n') {t : Ty} {x : t.den} {hv : Value} {own1 loose1 : List Nat}
    (hT : TRep w' I' (fun j => if j = id then hv else σ j) t [hv] x own1) (hnd : (own1 ++ loose1).Nodup) (hsub : ∀ b ∈ own1 ++ loose1, b ∈ loose ∨ (w.heap.size ≤ b ∧ b < w'.heap.size))
    (hk : Kept w w' I I' fun b => b ∈ loose) (himm : ∀ b j v, I' b j = some v → w'.cell? ⟨b, j, none⟩ = some v) (hrefs : ∀ j ∈ t.refs, j < n) (hS : ∀ j o, S.H j = some o → j < n) :
    Inv S n' w' I' (fun j => if j = id then hv else σ j) (H.put id (some ⟨t, x, []⟩)) (fun j => if j = id then own1 else own j) loose1 ∧
      Pres n w I σ H w' I' (fun j => if j = id then hv else σ j) (H.put id (some ⟨t, x, []⟩)) := by
  have hsm : ∀ {j o}, H j = some o → j ≠ id := fun {j o} h e => by have := (R.rel.lt j o h).1; omega
  have hoth : ∀ j oj, H j = some oj → ∀ b ∈ own j, w'.heap[b]? = w.heap[b]? ∧ ∀ k, I' b k = I b k := by
    intro j oj hoj b hb
    exact hk.blk b (R.lt_size hoj b hb) fun e => R.ldj j oj hoj b e hb
  have hdj1 : ∀ j oj, H j = some oj → ∀ b ∈ own1 ++ loose1, b ∉ own j := by
    intro j oj hoj b hb hb'
    rcases hsub b hb with e | e
    · exact R.ldj j oj hoj b e hb'
    · have := R.lt_size hoj b hb'; omega
  obtain ⟨hn1, hn2, hn3⟩ := List.nodup_append.1 hnd
  have hget : ∀ {j o}, H.put id (some ⟨t, x, []⟩) j = some o → (j = id ∧ o = ⟨t, x, []⟩) ∨ (j ≠ id ∧ H j = some o) := by
    intro j o h
    by_cases e : j = id
    · subst e; rw [put_self] at h; injection h with h; exact .inl ⟨rfl, h.symm⟩
    · rw [put_ne _ _ e] at h; exact .inr ⟨e, h⟩
  refine ⟨⟨⟨himm, fun j o hj => ?_, fun j o hj => ?_, fun i j oi oj hij hi hj b hb => ?_, fun j o hj => ?_⟩, ?_, fun j o hj b hb => ?_, hn2, fun j o hj b hb => ?_, fun b hb => ?_, fun j o0 o h0 hj hok => ?_⟩, hk.le, fun j o hn hj => ?_, fun j hn _ => if_neg (by omega), fun j _ _ hn _ _ _ => if_neg (by omega)⟩
  · rcases hget hj with ⟨rfl, rfl⟩ | ⟨e, h⟩
    · simpa using hT
    · simp only [if_neg e]
      exact (R.rel.rep j o h).frame hk.le (hoth j o h) (fun k hk => by rw [if_neg]; have := (R.rel.lt j o h).2 k hk; omega)
  · rcases hget hj with ⟨rfl, rfl⟩ | ⟨e, h⟩
    · simpa using hn1
    · rw [if_neg e]; exact R.rel.nd j o h
  · rcases hget hi with ⟨rfl, rfl⟩ | ⟨e, h⟩
    · rcases hget hj with ⟨rfl, rfl⟩ | ⟨e', h'⟩
      · exact absurd rfl hij
      · rw [if_pos rfl] at hb; rw [if_neg e']; exact hdj1 j oj h' b (by simp [hb])
    · rw [if_neg e] at hb
      rcases hget hj with ⟨rfl, rfl⟩ | ⟨e', h'⟩
      · rw [if_pos rfl]; intro hb'; exact hdj1 i oi h b (by simp [hb']) hb
      · rw [if_neg e']; exact R.disj hij h h' b hb
  · rcases hget hj with ⟨rfl, rfl⟩ | ⟨e, h⟩
    · exact ⟨hid', fun k hk => by have := hrefs k hk; omega⟩
    · have := R.rel.lt j o h; exact ⟨by omega, fun k hk => by have := this.2 k hk; omega⟩
  · exact R.kept.trans hk fun b hb => (R.lown b hb).1
  · rcases hget hj with ⟨rfl, rfl⟩ | ⟨e, h⟩
    · rw [if_pos rfl] at hb
      rcases hsub b (by simp [hb]) with e | e
      · exact (R.lown b e).1
      · exact .inr (Nat.le_trans R.kept.size e.1)
    · rw [if_neg e] at hb; exact R.owns j o h b hb
  · rcases hget hj with ⟨rfl, rfl⟩ | ⟨e, h⟩
    · rw [if_pos rfl]; intro hb'; exact hn3 b hb' b hb rfl
    · rw [if_neg e]; exact hdj1 j o h b (by simp [hb])
  · rcases hsub b (by simp [hb]) with e | e
    · exact ⟨(R.lown b e).1, Nat.lt_of_lt_of_le (R.lown b e).2 hk.size⟩
    · exact ⟨.inr (Nat.le_trans R.kept.size e.1), e.2⟩
  · rcases hget hj with ⟨rfl, rfl⟩ | ⟨e, h⟩
    · have := hS j o0 h0; omega
    · simp only [if_neg e]; exact R.hdl j o0 o h0 h hok
  · rcases hget hj with ⟨rfl, rfl⟩ | ⟨e, h⟩
    · omega
    · exact ⟨o, h, ObjPres.same (R.rel.rep j o h) (fun b hb => (hoth j o h b hb).1) (by simp [e])⟩

end
end Go.Ev

namespace Go.Ev

theorem heap_at {H : Heap} {hdr : Bool} {id : Nat} {p : Path} {ver : Nat} {o : Obj} {v : TV} (h : H.at hdr id p ver = some (o, v)) : H id = some o ∧ o.ok hdr p ver = true ∧ o.t.get o.x p = some v := by
  unfold Heap.at at h
  simp only [Option.bind_eq_some_iff] at h
  obtain ⟨o', h1, h⟩ := h
  split at h
  · rename_i hok
    simp only [Option.map_eq_some_iff, Prod.mk.injEq] at h
    obtain ⟨v', h2, rfl, rfl⟩ := h
    exact ⟨h1, hok, h2⟩
  · simp at h

theorem as_some {m : Nat → Nat → Bool} {t u : Ty} {x : t.den} {y : u.den} (h : Ty.as m t u x = some y) : t.may m u = true ∧ ∃ e : t.erase = u.erase, y = cast (Ty.den_of_erase e) x := by
  unfold Ty.as at h
  split at h
  · rename_i e
    split at h
    · rename_i hm; exact ⟨hm, e, by simpa using h.symm⟩
    · simp at h
  · simp at h

theorem noM_ok {σ : Nat → Value} : ∀ i j, noM i j = true → σ j = σ i := by intro i j h; simp [noM] at h

/-- A step that writes nothing: what is known of memory's fixed part grows, what is owned is told otherwise. -/
structure Ghost (S : Start) (n : Nat) (w : World) (I : Imm) (σ : Nat → Value) (H : Heap) (own : Own) (loose : List Nat) (I' : Imm) (H' : Heap) (own' : Own) (loose' : List Nat) : Prop where
  inv : Inv S n w I' σ H' own' loose'
  pres : Pres n w I σ H w I' σ H'
  keep : ∀ b ∈ loose, ∀ j, I' b j = I b j
  sub : ∀ b ∈ loose, b ∈ loose'

section
variable {S : Start} {n : Nat} {w : World} {I : Imm} {σ : Nat → Value} {H : Heap} {own : Own} {loose : List Nat}

theorem Ghost.refl (R : Inv S n w I σ H own loose) : Ghost S n w I σ H own loose I H own loose := ⟨R, Pres.refl _ _ _ _ _, fun _ _ _ => rfl, fun _ h => h⟩
theorem Ghost.trans {I1 I2 : Imm} {H1 H2 : Heap} {own1 own2 : Own} {l1 l2 : List Nat} (h : Ghost S n w I σ H own loose I1 H1 own1 l1) (k : Ghost S n w I1 σ H1 own1 l1 I2 H2 own2 l2) : Ghost S n w I σ H own loose I2 H2 own2 l2 :=
  ⟨k.inv, h.pres.trans k.pres, fun b hb j => by rw [k.keep b (h.sub b hb) j, h.keep b hb j], fun b hb => k.sub b (h.sub b hb)⟩

/-- The header of a slice (a map), and the place where it stands. -/
theorem hdr_focus (R : Inv S n w I σ H own loose) {id : Nat} {ob : Obj} {p : Path} {u : Ty} {y : u.den} {v : Value} {k : Nat} (hob : H id = some ob) (hg : ob.t.get ob.x p = some ⟨u, y⟩) (hu : u.handle = true)
    (hh : HdrC w σ id ob p v k) : u.hk = k ∧ Inb ob.t ob.x p ∧ ∃ s ou pre post lh, Focus w I σ ob.t [σ id] ob.x (own id) p u y false none 0 s ou pre post lh ∧ s.cells = [v] := by
  obtain ⟨hi, hk, s, hs, hc⟩ := hh _ hg hu
  obtain ⟨s', ou, pre, post, lh, F⟩ := focus p ob.t [σ id] ob.x (own id) u y false none 0 (R.rel.rep id ob hob) (R.rel.nd id ob hob) hg hi
  have := F.spot
  rw [hs] at this
  injection this with this
  subst this
  exact ⟨hk, hi, s, ou, pre, post, lh, F, hc⟩

theorem splice_one {v : Value} {s : Spot} {p : Path} {t u : Ty} {x : t.den} {y : u.den} {ow ou pre post : List Nat} {lh : Bool} (F : Focus w I σ t [v] x ow p u y false none 0 s ou pre post lh) : (if lh then [v] else splice [v] s.off s.cells) = [v] := by
  cases lh with
  | true => rfl
  | false =>
    obtain ⟨f1, f2, f3, f4⟩ := F.here rfl
    simp only [Bool.false_eq_true, if_false, Nat.sub_zero] at f3 f4 ⊢
    rw [f3, splice_same f4]

theorem blkTo_same {s : Spot} {p : Path} {t u : Ty} {cs : List Value} {x : t.den} {y : u.den} {ow ou pre post : List Nat} {lh : Bool} (F : Focus w I σ t cs x ow p u y false none 0 s ou pre post lh) (c : Nat) : BlkTo w w lh s s.cells c := by
  unfold BlkTo
  split
  · rename_i h
    obtain ⟨c', es, f1, f2, f3, f4, f5⟩ := F.there h.1
    rw [h.2] at f1
    injection f1 with f1
    subst f1
    exact ⟨es, es, f3, f3, by rw [f4, splice_same (by simpa using f5)]⟩
  · rfl

theorem ren_refs_sub {q : Path} : ∀ {t : Ty} {x : t.den} {u z : TV}, t.set x q u = some z → ∀ j ∈ z.t.refs, j ∈ t.refs ∨ j ∈ u.t.refs := by
  induction q with
  | nil => intro t x u z h j hj; simp only [Ty.set, Option.some.injEq] at h; subst h; exact .inr hj
  | cons s q ih =>
    intro t x u z h j hj
    cases s <;> cases t <;> simp only [Ty.set, Option.bind_eq_some_iff, Option.some.injEq, reduceCtorEq] at h
    case o.one => obtain ⟨z', h1, rfl⟩ := h; simp only [Ty.refs] at hj ⊢; exact ih h1 j hj
    case l.pair =>
      obtain ⟨z', h1, rfl⟩ := h
      simp only [Ty.refs, List.mem_append] at hj ⊢
      rcases hj with hj | hj
      · rcases ih h1 j hj with e | e
        · exact .inl (.inl e)
        · exact .inr e
      · exact .inl (.inr hj)
    case r.pair =>
      obtain ⟨z', h1, rfl⟩ := h
      simp only [Ty.refs, List.mem_append] at hj ⊢
      rcases hj with hj | hj
      · exact .inl (.inl hj)
      · rcases ih h1 j hj with e | e
        · exact .inl (.inr e)
        · exact .inr e
    case «at».arr => obtain ⟨z', h1, z2, _, rfl⟩ := h; exact .inl hj
    case «at».vec =>
      split at h
      · simp at h
      simp only [Option.bind_eq_some_iff, Option.some.injEq] at h
      obtain ⟨z', h1, z2, _, rfl⟩ := h; exact .inl hj
    case d.box => obtain ⟨z', h1, rfl⟩ := h; simp only [Ty.refs] at hj ⊢; exact ih h1 j hj

theorem get_refs {p : Path} : ∀ {t : Ty} {x : t.den} {u : TV}, t.get x p = some u → ∀ j ∈ u.t.refs, j ∈ t.refs := by
  induction p with
  | nil => intro t x u h j hj; simp only [Ty.get, Option.some.injEq] at h; subst h; exact hj
  | cons s p ih =>
    intro t x u h j hj
    cases s <;> cases t <;> simp only [Ty.get, reduceCtorEq] at h <;> have := ih h j hj <;> simp only [Ty.refs, List.mem_append] <;> first | exact this | exact .inl this | exact .inr this

/-- What stands at a place is told otherwise; memory is as it was. -/
theorem Inv.retype (R : Inv S n w I σ H own loose) {id : Nat} {ob : Obj} {p : Path} {u : Ty} {y : u.den} {s : Spot} {ou pre post : List Nat} {lh : Bool} {I' : Imm} {u' z : TV} {ou' loose' : List Nat} {es : List (Bool × Path)}
    (hob : H id = some ob) (hg : ob.t.get ob.x p = some ⟨u, y⟩) (F : Focus w I σ ob.t [σ id] ob.x (own id) p u y false none 0 s ou pre post lh)
    (hset : ob.t.set ob.x p u' = some z) (hw : u'.t.width = u.width) (hT : TRep w I' σ u'.t s.cells u'.x ou') (hh : Harder w I I' ou)
    (hou : (ou' ++ loose').Nodup) (hsub : ∀ b ∈ ou' ++ loose', b ∈ ou ∨ b ∈ loose) (hrefs : ∀ j ∈ u'.t.refs, j < n)
    (hes : EvOk es p u u'.t True) :
    Inv S n w I' σ (H.put id (some ⟨z.t, z.x, ob.ev ++ es⟩)) (fun j => if j = id then pre ++ ou' ++ post else own j) loose' ∧ Pres n w I σ H w I' σ (H.put id (some ⟨z.t, z.x, ob.ev ++ es⟩)) ∧
      (∀ b ∈ loose, ∀ j, I' b j = I b j) := by
  have hnd := R.rel.nd id ob hob
  have hown := F.own
  have hcl : s.cells.length = u.width := F.rep.len
  have hsz : ∀ b, b ∈ ou → b ∈ own id := fun b hb => by rw [hown]; simp [hb]
  rw [hown] at hnd
  obtain ⟨m1, m2, m3⟩ := List.nodup_append.1 hnd
  obtain ⟨m4, m5, m6⟩ := List.nodup_append.1 m1
  have hkeep : ∀ c ∈ pre ++ post, c ∉ ou := by
    intro c hc hcu
    rcases List.mem_append.1 hc with hc | hc
    · exact m6 c hc c hcu rfl
    · exact m3 c (by simp [hcu]) c hc rfl
  have hlo : ∀ b ∈ loose, b ∉ own id := fun b hb => R.ldj id ob hob b hb
  have hT2 := F.plug w I' σ u'.t u'.x s.cells ou' z hw hT hset (fun _ _ => rfl) hh.le (fun c hc j => hh.out c (hkeep c hc) j) (fun c _ => blkTo_same F c)
  rw [Nat.sub_zero, splice_one F] at hT2
  have hp : ObjPres w σ ob w σ ⟨z.t, z.x, ob.ev ++ es⟩ id := by
    refine ObjPres.set (R.rel.rep id ob hob) (R.rel.nd id ob hob) hg F hset hw hcl (fun c _ => blkTo_same F c) (splice_one F) ?_
    rcases hes with h | h | ⟨h1, _, h3⟩
    · exact .inl h
    · exact .inr (.inl h)
    · exact .inr (.inr ⟨h1, fun _ _ _ _ => rfl, h3⟩)
  obtain ⟨k1, k2, k3⟩ := List.nodup_append.1 hou
  have hN : ((pre ++ ou' ++ post) ++ loose').Nodup := by
    have hd : ∀ a ∈ ou' ++ loose', a ∉ pre ++ post := by
      intro a ha hap
      rcases hsub a ha with e | e
      · exact hkeep a hap e
      · exact hlo a e (by rw [hown]; rcases List.mem_append.1 hap with h | h <;> simp [h])
    refine List.nodup_append.2 ⟨List.nodup_append.2 ⟨List.nodup_append.2 ⟨m4, k1, fun a ha b hb e => ?_⟩, m2, fun a ha b hb e => ?_⟩, k2, fun a ha b hb e => ?_⟩
    · subst e; exact hd a (by simp [hb]) (by simp [ha])
    · subst e
      rcases List.mem_append.1 ha with ha | ha
      · exact m3 a (by simp [ha]) a hb rfl
      · exact hd a (by simp [ha]) (by simp [hb])
    · subst e
      rcases List.mem_append.1 ha with ha | ha
      · rcases List.mem_append.1 ha with ha | ha
        · exact hd a (by simp [hb]) (by simp [ha])
        · exact k3 a ha a hb rfl
      · exact hd a (by simp [hb]) (by simp [ha])
  have hz := R.set (ob' := ⟨z.t, z.x, ob.ev ++ es⟩) (w' := w) (I' := I') hob (own1 := pre ++ ou' ++ post) (loose1 := loose') hT2 hN
    (fun b hb => by
      simp only [List.mem_append] at hb
      have key : ∀ c, c ∈ ou' ∨ c ∈ loose' → c ∈ own id ∨ c ∈ loose ∨ (w.heap.size ≤ c ∧ c < w.heap.size) := fun c hc => by
        rcases hsub c (by simpa using hc) with e | e
        · exact .inl (hsz c e)
        · exact .inr (.inl e)
      rcases hb with ((hb | hb) | hb) | hb
      · exact .inl (by rw [hown]; simp [hb])
      · exact key b (.inl hb)
      · exact .inl (by rw [hown]; simp [hb])
      · exact key b (.inr hb))
    ⟨rfl, rfl, rfl, Nat.le_refl _, fun b _ hb => ⟨rfl, fun j => hh.out b (fun e => hb (.inl (hsz b e))) j⟩, hh.le⟩
    (fun b j v hv => by rcases hh.imm b j v hv with e | e; exact R.rel.imm b j v e; exact e)
    (fun j hj => by rcases ren_refs_sub hset j hj with e | e; exact (R.rel.lt id ob hob).2 j e; exact hrefs j e)
    hp
  exact ⟨hz.1, hz.2, fun b hb j => hh.out b (fun e => hlo b hb (hsz b e)) j⟩

theorem vec_list {e : Ty} {cs : List Value} {l : List e.den} {ow : List Nat} (hp : e.pure = true) (h : TRep w I σ (.vec true e) cs l ow) : TRep w I σ (.list e) cs l [] := by
  obtain ⟨a, cap, rfl, h1, h2, h⟩ := h
  rcases h with ⟨rfl, rfl, rfl, rfl⟩ | ⟨b, es, css, ows, rfl, _, _, _, rfl, ha, _, hs⟩
  · exact ⟨rfl, hp, none, 0, [], [], rfl, by simp, by decide, trivial, fun hx => absurd rfl hx⟩
  · exact ⟨rfl, hp, _, cap, css, ows, rfl, h1, h2, ha, fun _ => ⟨b, 0, rfl, fun j v hv => by rw [Nat.zero_add]; exact (hs rfl).2 j v hv⟩⟩

theorem obj_set {o o' : Obj} {p : Path} {v : TV} {e : List (Bool × Path)} (h : o.set p v e = some o') : ∃ z, o.t.set o.x p v = some z ∧ o' = ⟨z.t, z.x, o.ev ++ e⟩ := by
  unfold Obj.set at h
  simp only [Option.map_eq_some_iff] at h
  obtain ⟨z, h1, h2⟩ := h
  exact ⟨z, h1, h2.symm⟩

theorem pure_refs_lt {t : Ty} (h : t.pure = true) : ∀ j ∈ t.refs, j < n := by rw [pure_refs h]; simp

/-- What is owned, made hard where it stands. -/
theorem harden_ok (R : Inv S n w I σ H own loose) {id : Nat} {p : Path} {ver : Nat} {lv : LV} {H' : Heap} (h : H.harden id p ver = some (lv, H')) {v : Value} {k : Nat}
    (hv : ∀ ob, H id = some ob → ob.ok true p ver = true → HdrC w σ id ob p v k) :
    ∃ I' own', Ghost S n w I σ H own loose I' H' own' loose ∧ lv.e.pure = true ∧ lv.e.width = k ∧ TRep w I' σ (.list lv.e) [v] lv.l [] := by
  unfold Heap.harden at h
  simp only [Option.bind_eq_some_iff] at h
  obtain ⟨⟨ob, u⟩, h1, h⟩ := h
  obtain ⟨g1, g2, g3⟩ := heap_at h1
  obtain ⟨ut, ux⟩ := u
  cases ut with
  | vec s e =>
    obtain ⟨hk, hi, sp, ou, pre, post, lh, F, hc⟩ := hdr_focus R g1 g3 rfl (hv ob g1 g2)
    have hrep := F.rep
    rw [hc] at hrep
    cases s with
    | true =>
      simp only at h
      split at h
      · rename_i hp
        simp only [Option.some.injEq, Prod.mk.injEq] at h
        obtain ⟨rfl, rfl⟩ := h
        exact ⟨I, own, Ghost.refl R, hp, hk, vec_list hp hrep⟩
      · simp at h
    | false =>
      simp only at h
      split at h
      · rename_i hp
        simp only [Bool.and_eq_true] at hp
        simp only [Option.bind_eq_some_iff, Option.map_eq_some_iff, Prod.mk.injEq] at h
        obtain ⟨l', h2, o', h3, rfl, rfl⟩ := h
        obtain ⟨z, h4, rfl⟩ := obj_set h3
        obtain ⟨hm, he, rfl⟩ := as_some h2
        have hnd := R.rel.nd id ob g1
        rw [F.own] at hnd
        have hou : ou.Nodup := (List.nodup_append.1 (List.nodup_append.1 hnd).1).2.1
        obtain ⟨I', ou', q1, q2, q3⟩ := TRep.as (σ := σ) (m := noM) noM_ok hm he I [v] ux ou hrep hou
        have hl : ∀ b ∈ ou, b ∉ loose := fun b hb hb' => R.ldj id ob g1 b hb' (by rw [F.own]; simp [hb])
        obtain ⟨k1, k2, k3⟩ := R.retype (I' := I') (u' := ⟨.vec true e.hard, cast (Ty.den_of_erase he) ux⟩) (ou' := ou') (loose' := loose) g1 g3 F h4 rfl (by rw [hc]; exact q2) q1
          (List.nodup_append.2 ⟨q3.nodup hou, R.lnd, fun a ha b hb e => by subst e; exact hl a (q3.subset ha) hb⟩)
          (fun b hb => by rcases List.mem_append.1 hb with hb | hb; exact .inl (q3.subset hb); exact .inr hb)
          (fun j hj => pure_refs_lt (t := e.hard) hp.2 j hj)
          (.inr (.inr ⟨rfl, trivial, fun _ => ⟨rfl, by simp only [Ty.hk]; have := may_width hm; simp [Ty.may] at hm; exact (may_width hm.1).symm⟩⟩))
        refine ⟨I', _, ⟨k1, k2, k3, fun _ h => h⟩, hp.2, ?_, vec_list hp.2 q2⟩
        simp [Ty.may] at hm
        simp only
        rw [may_width hm.1]; exact hk
      · simp at h
  | _ => simp at h

theorem sub_all3 {t : Ty} {css : List (List Value)} {xs : List t.den} {ows : List (List Nat)} (h : All3 (TRep w I σ t) css xs ows) (a b : Nat) :
    All3 (TRep w I σ t) ((css.take b).drop a) ((xs.take b).drop a) ((ows.take b).drop a) := (h.take).drop

theorem flatten_seg {α : Type} {k : Nat} : ∀ {css : List (List α)} (_ : ∀ c ∈ css, c.length = k) (a b : Nat) {j : Nat} {v : α}, ((css.take b).drop a).flatten[j]? = some v → css.flatten[a * k + j]? = some v := by
  intro css hk a b j v h
  have h1 : ((css.take b).drop a).flatten = (css.take b).flatten.drop (a * k) := by
    have hk' : ∀ c ∈ css.take b, c.length = k := fun c hc => hk c (List.mem_of_mem_take hc)
    generalize css.take b = l at *
    clear h
    induction l generalizing a with
    | nil => simp
    | cons c l ih =>
      cases a with
      | zero => simp
      | succ a =>
        have := hk' c (by simp)
        rw [List.drop_succ_cons, ih a (fun c hc => hk' c (by simp [hc])), List.flatten_cons, show (a + 1) * k = c.length + a * k from by rw [this, Nat.add_mul]; omega, List.drop_length_add_append]
  rw [h1, List.getElem?_drop] at h
  have h2 : css.flatten = (css.take b).flatten ++ (css.drop b).flatten := by rw [← List.flatten_append, List.take_append_drop]
  rw [h2, List.getElem?_append_left]
  · exact h
  · exact (List.getElem?_eq_some_iff.1 h).1

/-- A piece of a list is a list. -/
theorem list_sub {e : Ty} {hv : List Value} {l : List e.den} {ha : Option Addr} {hl hc : Nat} (hv' : hv = [.slice ha hl hc]) (h : TRep w I σ (.list e) hv l []) {off len : Int} {a : Option Addr} {m c : Nat}
    (h0 : 0 ≤ off) (hm : (m : Int) = len) (hb : off + len ≤ (hl : Int)) (hmc : m ≤ c) (hcm : c ≤ maxI) (ha' : 0 < m → a = ha.map fun d => d.add (off.toNat * e.width)) :
    TRep w I σ (.list e) [.slice a m c] (sub l off (iadd off len)) [] := by
  obtain ⟨_, hp, a0, cap, css, ows, hcs, h1, h2, hall, hi⟩ := h
  subst hv'
  simp only [List.cons.injEq, Value.slice.injEq, and_true] at hcs
  obtain ⟨rfl, rfl, rfl⟩ := hcs
  have hlen : (sub l off (iadd off len)).length = m := by
    rw [sub_eq, iadd_eq]; simp only [List.length_drop, List.length_take]; omega
  refine ⟨rfl, hp, a, c, _, _, by rw [hlen], by rw [hlen]; exact hmc, hcm, by rw [sub_eq]; exact sub_all3 hall off.toNat (iadd off len).toNat, fun hx => ?_⟩
  have hm0 : 0 < m := by
    rcases Nat.eq_zero_or_pos m with e | e
    · rw [e] at hlen; exact absurd (List.eq_nil_of_length_eq_zero hlen) hx
    · exact e
  obtain ⟨b, o, e1, e2⟩ := hi (by intro e; subst e; simp at hb; omega)
  subst e1
  refine ⟨b, o + off.toNat * e.width, ?_, fun j v hv => ?_⟩
  · rw [ha' hm0]
    simp only [Option.map_some, Addr.add]
    split
    · rename_i e; simp [e]
    · rfl
  · have := e2 (off.toNat * e.width + j) v (flatten_seg (fun c hc => by obtain ⟨_, _, hh⟩ := All3.mem_l hall c hc; exact hh.len) _ _ hv)
    rwa [← Nat.add_assoc] at this

/-- Data out of a value. -/
theorem dat_ok : ∀ (a : AV) {t : Ty} {x : t.den} {I : Imm} {H H' : Heap} {own : Own} {cs : List Value}, Inv S n w I σ H own loose → H.dat a t = some (x, H') → (∀ id ∈ a.ids, id < n) → AvC w I σ H a cs →
    ∃ I' own', Ghost S n w I σ H own loose I' H' own' loose ∧ t.pure = true ∧ TRep w I' σ t cs x [] := by
  intro a
  induction a with
  | dat u y =>
    intro t x I H H' own cs R h _ hc
    simp only [Heap.dat, Option.map_eq_some_iff, Prod.mk.injEq] at h
    obtain ⟨x', h, rfl, rfl⟩ := h
    obtain ⟨hm, he, rfl⟩ := as_some h
    obtain ⟨hp, hr⟩ := hc
    obtain ⟨I', ou', q1, q2, q3⟩ := TRep.as (σ := σ) (m := noM) noM_ok hm he I cs y [] hr (by simp)
    have hup := may_pure hm hp
    have hI : ∀ b j, I' b j = I b j := fun b j => q1.out b (by simp) j
    have : I' = I := funext fun b => funext fun j => hI b j
    subst this
    refine ⟨I', own, Ghost.refl R, hup, ?_⟩
    rw [q2.pure_ow hup] at q2; exact q2
  | lb b =>
    intro t x I H H' own cs R h _ hc
    cases t <;> simp only [Heap.dat, reduceCtorEq, Option.some.injEq, Prod.mk.injEq] at h
    obtain ⟨rfl, rfl⟩ := h
    exact ⟨I, own, Ghost.refl R, rfl, ⟨rfl, hc⟩⟩
  | slw id p ver =>
    intro t x I H H' own cs R h hn hc
    simp only [Heap.dat, Option.bind_eq_some_iff, Option.map_eq_some_iff, Prod.mk.injEq] at h
    obtain ⟨⟨lv, H1⟩, h1, x', h2, rfl, rfl⟩ := h
    obtain ⟨a, l, c, k, rfl, h3⟩ := hc
    obtain ⟨I1, own1, g1, g2, g2', g3⟩ := harden_ok R h1 (v := .slice a l c) (k := k) (fun ob hob hok => (h3 ob hob).2 hok)
    obtain ⟨hm, he, rfl⟩ := as_some h2
    obtain ⟨I', ou', q1, q2, q3⟩ := TRep.as (σ := σ) (m := noM) noM_ok hm he I1 _ lv.l [] g3 (by simp)
    have hup := may_pure hm (t := .list lv.e) g2
    have : I' = I1 := funext fun b => funext fun j => q1.out b (by simp) j
    subst this
    refine ⟨I', own1, g1, hup, ?_⟩
    rw [q2.pure_ow hup] at q2; exact q2
  | sub id p ver off len =>
    intro t x I H H' own cs R h hn hc
    simp only [Heap.dat, Option.bind_eq_some_iff, Option.map_eq_some_iff, Prod.mk.injEq] at h
    obtain ⟨⟨lv, H1⟩, h1, x', h2, rfl, rfl⟩ := h
    obtain ⟨a, l, c, ha, hl, hcap, k, rfl, e1, e2, e3, e4, e5, e6, h3⟩ := hc
    obtain ⟨I1, own1, g1, g2, g2', g3⟩ := harden_ok R h1 (v := .slice ha hl hcap) (k := k) (fun ob hob hok => (h3 ob hob).2 hok)
    have g4 := list_sub rfl g3 e2 e1 e5 e3 e4 (a := a) (fun e => by rw [g2']; exact e6 e)
    obtain ⟨hm, he, rfl⟩ := as_some h2
    obtain ⟨I', ou', q1, q2, q3⟩ := TRep.as (σ := σ) (m := noM) noM_ok hm he I1 _ _ [] g4 (by simp)
    have hup := may_pure hm (t := .list lv.e) g2
    have : I' = I1 := funext fun b => funext fun j => q1.out b (by simp) j
    subst this
    refine ⟨I', own1, g1, hup, ?_⟩
    rw [q2.pure_ow hup] at q2; exact q2
  | nsl =>
    intro t x I H H' own cs R h _ hc
    cases t <;> simp only [Heap.dat, reduceCtorEq] at h
    split at h
    · rename_i hp
      simp only [Option.some.injEq, Prod.mk.injEq] at h
      obtain ⟨rfl, rfl⟩ := h
      obtain rfl : cs = [.slice none 0 0] := hc
      exact ⟨I, own, Ghost.refl R, hp, rfl, hp, none, 0, [], [], rfl, by simp, by decide, trivial, fun hx => absurd rfl hx⟩
    · simp at h
  | one a ih =>
    intro t x I H H' own cs R h hn hc
    cases t <;> simp only [Heap.dat, reduceCtorEq] at h
    rename_i t
    obtain ⟨I', own', g, p, q⟩ := ih (t := t) R h hn hc
    exact ⟨I', own', g, p, q⟩
  | pair a b iha ihb =>
    intro t x I H H' own cs R h hn hc
    cases t <;> simp only [Heap.dat, reduceCtorEq] at h
    rename_i t u
    simp only [Option.bind_eq_some_iff, Option.map_eq_some_iff, Prod.mk.injEq] at h
    obtain ⟨⟨x1, H1⟩, h1, ⟨y1, H2⟩, h2, rfl, rfl⟩ := h
    obtain ⟨c1, c2, rfl, hc1, hc2⟩ := hc
    have hna : ∀ id ∈ a.ids, id < n := fun id h => hn id (by simp [AV.ids, h])
    have hnb : ∀ id ∈ b.ids, id < n := fun id h => hn id (by simp [AV.ids, h])
    obtain ⟨I1, own1, g1, p1, t1⟩ := iha R h1 hna hc1
    obtain ⟨I2, own2, g2, p2, t2⟩ := ihb g1.inv h2 hnb ((AvR.pres g1.pres b hnb).1 _ hc2)
    exact ⟨I2, own2, g1.trans g2, by simp [Ty.pure, p1, p2], c1, c2, [], [], rfl, rfl, t1.lift g2.pres.imm p1, t2⟩
  | _ =>
    intro t x I H H' own cs R h _ hc
    cases t <;> simp [Heap.dat] at h
end

end Go.Ev

namespace Go.Ev

section
variable {S : Start} {n : Nat} {w : World} {I : Imm} {σ : Nat → Value} {H : Heap} {own : Own} {loose : List Nat}

theorem handle_width {u : Ty} (h : u.handle = true) : u.width = 1 := by cases u <;> simp [Ty.handle] at h <;> rfl

theorem take_ok (R : Inv S n w I σ H own loose) {id : Nat} {p : Path} {ob : Obj} {u : Ty} {y : u.den} {H' : Heap} {v : Value} {k : Nat} (hob : H id = some ob) (hg : ob.t.get ob.x p = some ⟨u, y⟩) (hu : u.handle = true)
    (h : H.take id p ob = some H') (hv : HdrC w σ id ob p v k) : ∃ own' ou, Ghost S n w I σ H own loose I H' own' (ou ++ loose) ∧ TRep w I σ u [v] y ou ∧ ∀ j ∈ u.refs, j < n := by
  obtain ⟨_, hi, s, ou, pre, post, lh, F, hc⟩ := hdr_focus R hob hg hu hv
  have hrep := F.rep
  rw [hc] at hrep
  have hrefs : ∀ j ∈ u.refs, j < n := fun j hj => (R.rel.lt id ob hob).2 j (get_refs hg j hj)
  cases p with
  | nil =>
    simp only [Heap.take, Option.some.injEq] at h
    subst h
    simp only [Ty.get, Option.some.injEq, TV.mk.injEq] at hg
    obtain ⟨rfl, hg⟩ := hg
    obtain rfl := eq_of_heq hg
    have hs := F.spot
    rw [spot_nil] at hs
    simp only [Option.some.injEq] at hs
    subst hs
    simp only at hc
    have hr := R.rel.rep id ob hob
    rw [hc] at hr
    obtain ⟨k1, k2⟩ := R.drop hob
    exact ⟨own, own id, ⟨k1, k2, fun _ _ _ => rfl, fun b hb => by simp [hb]⟩, hr, hrefs⟩
  | cons st p =>
    simp only [Heap.take] at h
    split at h
    · simp only [Option.map_eq_some_iff] at h
      obtain ⟨o', h1, rfl⟩ := h
      obtain ⟨z, h2, rfl⟩ := obj_set h1
      have hnd := R.rel.nd id ob hob
      have hown := F.own
      rw [hown] at hnd
      have hou : ou.Nodup := (List.nodup_append.1 (List.nodup_append.1 hnd).1).2.1
      have hl : ∀ b ∈ ou, b ∉ loose := fun b hb hb' => R.ldj id ob hob b hb' (by rw [hown]; simp [hb])
      obtain ⟨k1, k2, k3⟩ := R.retype (I' := I) (u' := ⟨.hole 1, ()⟩) (ou' := []) (loose' := ou ++ loose) (es := []) hob hg F h2 (by simp [Ty.width, handle_width hu])
        ⟨rfl, by rw [hc]; rfl, fun c hc' => F.rep.one c hc'⟩ (Harder.refl _ _ _)
        (by simpa using List.nodup_append.2 ⟨hou, R.lnd, fun a ha b hb e => by subst e; exact hl a ha hb⟩)
        (fun b hb => by simpa using hb) (fun j hj => by simp [Ty.refs] at hj) (.inl ⟨rfl, rfl⟩)
      exact ⟨_, ou, ⟨k1, k2, k3, fun b hb => by simp [hb]⟩, hrep, hrefs⟩
    · simp at h

/-- What is stored: its cells, and what it owns. -/
theorem tv_ok : ∀ (a : AV) {u : Ty} {v : TV} {I : Imm} {H H' : Heap} {own : Own} {loose : List Nat} {cs : List Value}, Inv S n w I σ H own loose → H.tv a u = some (v, H') → (∀ id ∈ a.ids, id < n) → AvC w I σ H a cs →
    ∃ I' own' ou, Ghost S n w I σ H own loose I' H' own' (ou ++ loose) ∧ TRep w I' σ v.t cs v.x ou ∧ ∀ j ∈ v.t.refs, j < n := by
  intro a
  induction a with
  | dat t x =>
    intro u v I H H' own loose cs R h _ hc
    simp only [Heap.tv, Option.some.injEq, Prod.mk.injEq] at h
    obtain ⟨rfl, rfl⟩ := h
    exact ⟨I, own, [], Ghost.refl R, hc.2, pure_refs_lt hc.1⟩
  | lb b =>
    intro u v I H H' own loose cs R h _ hc
    simp only [Heap.tv, Option.some.injEq, Prod.mk.injEq] at h
    obtain ⟨rfl, rfl⟩ := h
    exact ⟨I, own, [], Ghost.refl R, ⟨rfl, hc⟩, fun j hj => by simp [Ty.refs] at hj⟩
  | slw id p ver =>
    intro u v I H H' own loose cs R h hn hc
    obtain ⟨a, l, c, k, rfl, h3⟩ := hc
    simp only [Heap.tv, Option.bind_eq_some_iff] at h
    obtain ⟨⟨ob, w0⟩, h1, h⟩ := h
    obtain ⟨g1, g2, g3⟩ := heap_at h1
    have hh := (h3 ob g1).2 g2
    obtain ⟨ut, ux⟩ := w0
    cases ut with
    | vec s e =>
      cases s with
      | false =>
        simp only [Option.map_eq_some_iff, Prod.mk.injEq] at h
        obtain ⟨H1, h4, rfl, rfl⟩ := h
        obtain ⟨own', ou, q1, q2, q3⟩ := take_ok R g1 g3 rfl h4 hh
        exact ⟨I, own', ou, q1, q2, q3⟩
      | true =>
        cases p with
        | nil =>
          simp only [Option.some.injEq, Prod.mk.injEq] at h
          obtain ⟨rfl, rfl⟩ := h
          obtain ⟨own', ou, q1, q2, q3⟩ := take_ok R g1 g3 rfl (H' := H.put id none) rfl hh
          exact ⟨I, own', ou, q1, q2, q3⟩
        | cons st p =>
          simp only at h
          split at h
          · rename_i hp
            simp only [Option.some.injEq, Prod.mk.injEq] at h
            obtain ⟨rfl, rfl⟩ := h
            obtain ⟨_, _, s, ou, pre, post, lh, F, hcc⟩ := hdr_focus R g1 g3 rfl hh
            have hr := F.rep
            rw [hcc] at hr
            exact ⟨I, own, [], Ghost.refl R, vec_list hp hr, pure_refs_lt (t := .list e) hp⟩
          · simp at h
    | map kt vt =>
      obtain ⟨_, _, s, ou, pre, post, lh, F, hcc⟩ := hdr_focus R g1 g3 rfl hh
      exact F.rep.elim
    | _ => simp at h
  | sub id p ver off len =>
    intro u v I H H' own loose cs R h hn hc
    obtain ⟨a, l, c, ha, hl, hcap, k, rfl, e1, e2, e3, e4, e5, e6, h3⟩ := hc
    simp only [Heap.tv, Option.map_eq_some_iff, Prod.mk.injEq] at h
    obtain ⟨⟨lv, H1⟩, h1, rfl, rfl⟩ := h
    obtain ⟨I1, own1, g1, g2, g2', g3⟩ := harden_ok R h1 (v := .slice ha hl hcap) (k := k) (fun ob hob hok => (h3 ob hob).2 hok)
    exact ⟨I1, own1, [], g1, list_sub rfl g3 e2 e1 e5 e3 e4 (fun e => by rw [g2']; exact e6 e), pure_refs_lt (t := .list lv.e) g2⟩
  | mp id p ver =>
    intro u v I H H' own loose cs R h hn hc
    obtain ⟨r, k, rfl, h3⟩ := hc
    simp only [Heap.tv, Option.bind_eq_some_iff] at h
    obtain ⟨⟨ob, w0⟩, h1, h⟩ := h
    obtain ⟨g1, g2, g3⟩ := heap_at h1
    obtain ⟨ut, ux⟩ := w0
    cases ut with
    | map kt vt =>
      obtain ⟨_, _, s, ou, pre, post, lh, F, hcc⟩ := hdr_focus R g1 g3 rfl ((h3 ob g1).2 g2)
      exact F.rep.elim
    | _ => simp at h
  | ptr id p q off ver =>
    intro u v I H H' own loose cs R h hn hc
    unfold Heap.tv at h
    split at h <;> first | (simp at h; done) | skip
    all_goals try (rename_i heq; simp at heq; done)
    rename_i id' ver' heq
    simp only [AV.ptr.injEq] at heq
    obtain ⟨rfl, rfl, rfl, rfl, rfl⟩ := heq
    simp only [Option.bind_eq_some_iff] at h
    obtain ⟨⟨ob, w0⟩, h1, h⟩ := h
    obtain ⟨g1, g2, g3⟩ := heap_at h1
    obtain ⟨b, o, base, rfl, h4, h5⟩ := hc
    have hp := (h5 ob g1).2 g2 _ g3
    obtain ⟨_, s, hs, hs1, hs2⟩ := hp
    obtain ⟨ot, ox, oe⟩ := ob
    cases ot with
    | box t =>
      simp only [Option.some.injEq, Prod.mk.injEq] at h
      obtain ⟨rfl, rfl⟩ := h
      obtain ⟨b0, es, o1, e1, ⟨eid, hb⟩, _, _, _⟩ := R.rel.rep id _ g1
      simp only [List.cons.injEq, and_true] at e1
      simp only [spot, e1, hdrBlk, hb, Option.bind_some, spot_nil, Option.some.injEq] at hs
      subst hs
      simp only [Option.some.injEq] at hs1 hs2
      subst hs1; subst hs2; subst h4
      exact ⟨I, own, [], Ghost.refl R, ⟨rfl, ⟨b0, 0, none⟩, rfl, rfl, e1⟩, fun j hj => by simp [Ty.refs] at hj; subst hj; exact (R.rel.lt _ _ g1).1⟩
    | _ => simp at h
  | nil =>
    intro u v I H H' own loose cs R h _ hc
    simp only [Heap.tv, Option.some.injEq, Prod.mk.injEq] at h
    obtain ⟨rfl, rfl⟩ := h
    exact ⟨I, own, [], Ghost.refl R, ⟨rfl, hc⟩, fun j hj => by simp [Ty.refs] at hj⟩
  | nsl =>
    intro u v I H H' own loose cs R h _ hc
    obtain rfl : cs = [.slice none 0 0] := hc
    have key : ∀ e : Ty, e.refs.isEmpty = true → ∃ I' own' ou, Ghost S n w I σ H own loose I' H own' (ou ++ loose) ∧ TRep w I' σ (.vec false e) [.slice none 0 0] ([] : List e.den) ou ∧ ∀ j ∈ (Ty.vec false e).refs, j < n := by
      intro e he
      refine ⟨I, own, [], Ghost.refl R, ⟨none, 0, rfl, by simp, by decide, .inl ⟨rfl, rfl, rfl, rfl⟩⟩, fun j hj => ?_⟩
      rw [Ty.refs, List.isEmpty_iff.1 he] at hj
      simp at hj
    cases u <;> simp only [Heap.tv, reduceCtorEq] at h
    all_goals
      split at h
      · rename_i he
        simp only [Option.some.injEq, Prod.mk.injEq] at h
        obtain ⟨rfl, rfl⟩ := h
        exact key _ he
      · simp at h
  | one a ih =>
    intro u v I H H' own loose cs R h hn hc
    simp only [Heap.tv, Option.map_eq_some_iff, Prod.mk.injEq] at h
    obtain ⟨⟨v1, H1⟩, h1, rfl, rfl⟩ := h
    obtain ⟨I', own', ou, g, q, r⟩ := ih R h1 hn hc
    exact ⟨I', own', ou, g, q, r⟩
  | pair a b iha ihb =>
    intro u v I H H' own loose cs R h hn hc
    simp only [Heap.tv, Option.bind_eq_some_iff, Option.map_eq_some_iff, Prod.mk.injEq] at h
    obtain ⟨⟨v1, H1⟩, h1, ⟨v2, H2⟩, h2, rfl, rfl⟩ := h
    obtain ⟨c1, c2, rfl, hc1, hc2⟩ := hc
    have hna : ∀ id ∈ a.ids, id < n := fun id h => hn id (by simp [AV.ids, h])
    have hnb : ∀ id ∈ b.ids, id < n := fun id h => hn id (by simp [AV.ids, h])
    obtain ⟨I1, own1, o1, g1, t1, r1⟩ := iha R h1 hna hc1
    obtain ⟨I2, own2, o2, g2, t2, r2⟩ := ihb g1.inv h2 hnb ((AvR.pres g1.pres b hnb).1 _ hc2)
    refine ⟨I2, own2, o1 ++ o2, ?_, ⟨c1, c2, o1, o2, rfl, rfl, t1.frame g2.pres.imm (fun d hd => ⟨rfl, fun j => g2.keep d (by simp [hd]) j⟩) (fun _ _ => rfl), t2⟩, fun j hj => ?_⟩
    · have hg := g1.trans g2
      refine ⟨⟨hg.inv.rel, hg.inv.kept, hg.inv.owns, ?_, fun i o hi b hb => hg.inv.ldj i o hi b ?_, fun b hb => hg.inv.lown b ?_, hg.inv.hdl⟩, hg.pres, hg.keep, fun b hb => by simp [hb]⟩
      · refine (List.Perm.nodup_iff ?_).2 hg.inv.lnd
        rw [← List.append_assoc]
        exact List.Perm.append_right _ List.perm_append_comm
      · simp at hb ⊢; rcases hb with h | h | h <;> simp [h]
      · simp at hb ⊢; rcases hb with h | h | h <;> simp [h]
    · simp only [Ty.refs, List.mem_append] at hj
      rcases hj with hj | hj
      · exact r1 j hj
      · exact r2 j hj
  | _ =>
    intro u v I H H' own loose cs R h _ hc
    simp [Heap.tv] at h

end
end Go.Ev

