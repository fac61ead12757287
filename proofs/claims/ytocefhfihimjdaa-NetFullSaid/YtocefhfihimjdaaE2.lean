/- A way to show what code computes: part 2: no condition. -/
import Derived.Test.YtocefhfihimjdaaE1
import Derived.ProofKit
set_option linter.unusedVariables false
namespace Go.Ev

abbrev Imm := Nat → Nat → Option Value
def Imm.le (I J : Imm) : Prop := ∀ b j v, I b j = some v → J b j = some v
theorem Imm.le_refl (I : Imm) : I.le I := fun _ _ _ h => h
theorem Imm.le_trans {I J K : Imm} (h : I.le J) (k : J.le K) : I.le K := fun b j v e => k b j v (h b j v e)

def All3 {A B C : Type} (R : A → B → C → Prop) : List A → List B → List C → Prop
  | [], [], [] => True
  | a :: as, b :: bs, c :: cs => R a b c ∧ All3 R as bs cs
  | _, _, _ => False

section
variable {A B C : Type} {R R' : A → B → C → Prop}
theorem All3.len : ∀ {as : List A} {bs : List B} {cs : List C}, All3 R as bs cs → as.length = bs.length ∧ cs.length = bs.length
  | [], [], [], _ => ⟨rfl, rfl⟩
  | _ :: _, _ :: _, _ :: _, h => by have := All3.len h.2; simp [this]
  | [], [], _ :: _, h | [], _ :: _, _, h | _ :: _, [], _, h | _ :: _, _ :: _, [], h => h.elim

theorem All3.split : ∀ {i : Nat} {as : List A} {bs : List B} {cs : List C}, All3 R as bs cs → i < bs.length →
    ∃ a1 a a2 b1 b b2 c1 c c2, as = a1 ++ a :: a2 ∧ bs = b1 ++ b :: b2 ∧ cs = c1 ++ c :: c2 ∧ a1.length = i ∧ b1.length = i ∧ c1.length = i ∧ All3 R a1 b1 c1 ∧ R a b c ∧ All3 R a2 b2 c2
  | 0, a :: as, b :: bs, c :: cs, h, _ => ⟨[], a, as, [], b, bs, [], c, cs, rfl, rfl, rfl, rfl, rfl, rfl, trivial, h.1, h.2⟩
  | i + 1, a :: as, b :: bs, c :: cs, h, hi => by
    obtain ⟨a1, a', a2, b1, b', b2, c1, c', c2, rfl, rfl, rfl, h1, h2, h3, h4, h5, h6⟩ := All3.split (i := i) h.2 (by simpa using hi)
    exact ⟨a :: a1, a', a2, b :: b1, b', b2, c :: c1, c', c2, rfl, rfl, rfl, by simp [h1], by simp [h2], by simp [h3], ⟨h.1, h4⟩, h5, h6⟩
  | _, [], [], [], _, hi => by simp at hi
  | _, [], [], _ :: _, h, _ | _, [], _ :: _, _, h, _ | _, _ :: _, [], _, h, _ | _, _ :: _, _ :: _, [], h, _ => h.elim

theorem All3.app : ∀ {a1 : List A} {b1 : List B} {c1 : List C} {a2 : List A} {b2 : List B} {c2 : List C}, All3 R a1 b1 c1 → All3 R a2 b2 c2 → All3 R (a1 ++ a2) (b1 ++ b2) (c1 ++ c2)
  | [], [], [], _, _, _, _, h2 => h2
  | _ :: _, _ :: _, _ :: _, _, _, _, h1, h2 => ⟨h1.1, All3.app h1.2 h2⟩
  | [], [], _ :: _, _, _, _, h, _ | [], _ :: _, _, _, _, _, h, _ | _ :: _, [], _, _, _, _, h, _ | _ :: _, _ :: _, [], _, _, _, h, _ => h.elim

theorem All3.mono : ∀ {as : List A} {bs : List B} {cs : List C}, All3 R as bs cs → (∀ a b c, c ∈ cs → b ∈ bs → R a b c → R' a b c) → All3 R' as bs cs
  | [], [], [], _, _ => trivial
  | a :: as, b :: bs, c :: cs, h, k => ⟨k a b c (by simp) (by simp) h.1, All3.mono h.2 fun a b c hc hb => k a b c (List.mem_cons_of_mem _ hc) (List.mem_cons_of_mem _ hb)⟩
  | [], [], _ :: _, h, _ | [], _ :: _, _, h, _ | _ :: _, [], _, h, _ | _ :: _, _ :: _, [], h, _ => h.elim

theorem All3.take : ∀ {n : Nat} {as : List A} {bs : List B} {cs : List C}, All3 R as bs cs → All3 R (as.take n) (bs.take n) (cs.take n)
  | 0, _, _, _, _ => by simp [All3]
  | n + 1, [], [], [], _ => trivial
  | n + 1, _ :: _, _ :: _, _ :: _, h => ⟨h.1, All3.take h.2⟩
  | _ + 1, [], [], _ :: _, h | _ + 1, [], _ :: _, _, h | _ + 1, _ :: _, [], _, h | _ + 1, _ :: _, _ :: _, [], h => h.elim

theorem All3.drop : ∀ {n : Nat} {as : List A} {bs : List B} {cs : List C}, All3 R as bs cs → All3 R (as.drop n) (bs.drop n) (cs.drop n)
  | 0, _, _, _, h => by simpa using h
  | n + 1, [], [], [], _ => trivial
  | n + 1, _ :: as, _ :: bs, _ :: cs, h => by simpa using All3.drop (n := n) (as := as) (bs := bs) (cs := cs) h.2
  | _ + 1, [], [], _ :: _, h | _ + 1, [], _ :: _, _, h | _ + 1, _ :: _, [], _, h | _ + 1, _ :: _, _ :: _, [], h => h.elim
end

def Blk (w : World) (b : Nat) (es : Array Value) : Prop := ∃ eid, w.heap[b]? = some (.cells es eid (0, 0))
def maxI : Nat := 9223372036854775807

def TRep (w : World) (I : Imm) (σ : Nat → Value) : (t : Ty) → List Value → t.den → List Nat → Prop
  | .int k, cs, x, ow => ow = [] ∧ cs = [.int k x] ∧ k.min ≤ (x : Int) ∧ (x : Int) ≤ k.max
  | .bool, cs, x, ow => ow = [] ∧ cs = [.bool x]
  | .str, cs, x, ow => ow = [] ∧ ∃ s : ByteArray, cs = [.string s] ∧ x = bytesOf s ∧ s.size ≤ maxI
  | .unit, cs, _, ow => ow = [] ∧ cs = []
  | .one t, cs, x, ow => TRep w I σ t cs x ow
  | .pair a b, cs, x, ow => ∃ c1 c2 o1 o2, cs = c1 ++ c2 ∧ ow = o1 ++ o2 ∧ TRep w I σ a c1 x.1 o1 ∧ TRep w I σ b c2 x.2 o2
  | .arr n t, cs, x, ow => ∃ css ows, cs = css.flatten ∧ ow = ows.flatten ∧ (x : List t.den).length = n ∧ All3 (TRep w I σ t) css x ows
  | .list t, cs, x, ow => ow = [] ∧ t.pure = true ∧ ∃ a cap css ows, cs = [.slice a (x : List t.den).length cap] ∧ (x : List t.den).length ≤ cap ∧ cap ≤ maxI ∧
      All3 (TRep w I σ t) css x ows ∧ ((x : List t.den) ≠ [] → ∃ b o, a = some ⟨b, o, none⟩ ∧ ∀ j v, css.flatten[j]? = some v → I b (o + j) = some v)
  | .vec s t, cs, x, ow => ∃ a cap, cs = [.slice a (x : List t.den).length cap] ∧ (x : List t.den).length ≤ cap ∧ cap ≤ maxI ∧
      ((a = none ∧ x = ([] : List t.den) ∧ cap = 0 ∧ ow = []) ∨
       ∃ b es css ows, a = some ⟨b, 0, none⟩ ∧ Blk w b es ∧ es.size = cap * t.width ∧ css.flatten = es.toList.take ((x : List t.den).length * t.width) ∧ ow = b :: ows.flatten ∧
         All3 (TRep w I σ t) css x ows ∧ (∀ j v, I b j = some v → s = true ∧ j < (x : List t.den).length * t.width) ∧
         (s = true → t.pure = true ∧ ∀ j v, css.flatten[j]? = some v → I b j = some v))
  | .map _ _, _, _, _ => False
  | .box t, cs, x, ow => ∃ b es o, cs = [.pointer (some ⟨b, 0, none⟩)] ∧ Blk w b es ∧ ow = b :: o ∧ TRep w I σ t es.toList x o ∧ ∀ j, I b j = none
  | .ref id, cs, _, ow => ow = [] ∧ ∃ a : Addr, a.spot = none ∧ cs = [.pointer (some a)] ∧ σ id = .pointer (some a)
  | .nil, cs, _, ow => ow = [] ∧ cs = [.pointer none]
  | .hole n, cs, _, ow => ow = [] ∧ cs.length = n ∧ ∀ c ∈ cs, c.oneCell' = true

theorem flat_len {A : Type} {w : Nat} : ∀ {css : List (List A)}, (∀ c ∈ css, c.length = w) → css.flatten.length = css.length * w
  | [], _ => by simp
  | c :: r, h => by
    have := flat_len (css := r) fun c hc => h c (List.mem_cons_of_mem _ hc)
    simp [this, h c (by simp), Nat.add_mul, Nat.add_comm]

theorem All3.mem_l {A B C : Type} {R : A → B → C → Prop} : ∀ {as : List A} {bs : List B} {cs : List C}, All3 R as bs cs → ∀ a ∈ as, ∃ b c, R a b c
  | [], [], [], _, _, h => by simp at h
  | a :: as, b :: bs, c :: cs, h, a', ha => by
    rcases List.mem_cons.1 ha with rfl | ha
    · exact ⟨b, c, h.1⟩
    · exact All3.mem_l h.2 a' ha
  | [], [], _ :: _, h, _, _ | [], _ :: _, _, h, _, _ | _ :: _, [], _, h, _, _ | _ :: _, _ :: _, [], h, _, _ => h.elim

theorem All3.mem_r {A B C : Type} {R : A → B → C → Prop} : ∀ {as : List A} {bs : List B} {cs : List C}, All3 R as bs cs → ∀ c ∈ cs, ∃ a b, a ∈ as ∧ b ∈ bs ∧ R a b c
  | [], [], [], _, _, h => by simp at h
  | a :: as, b :: bs, c :: cs, h, c', hc => by
    rcases List.mem_cons.1 hc with rfl | hc
    · exact ⟨a, b, by simp, by simp, h.1⟩
    · obtain ⟨a', b', h1, h2, h3⟩ := All3.mem_r h.2 c' hc
      exact ⟨a', b', by simp [h1], by simp [h2], h3⟩
  | [], [], _ :: _, h, _, _ | [], _ :: _, _, h, _, _ | _ :: _, [], _, h, _, _ | _ :: _, _ :: _, [], h, _, _ => h.elim

section
variable {w w' : World} {I I' : Imm} {σ σ' : Nat → Value}

theorem TRep.len : ∀ {t : Ty} {cs : List Value} {x : t.den} {ow : List Nat}, TRep w I σ t cs x ow → cs.length = t.width
  | .int _, _, _, _, h => by simp [h.2.1, Ty.width]
  | .bool, _, _, _, h => by simp [h.2, Ty.width]
  | .str, _, _, _, h => by obtain ⟨s, h, _⟩ := h.2; simp [h, Ty.width]
  | .unit, _, _, _, h => by simp [h.2, Ty.width]
  | .one t, _, _, _, h => by rw [Ty.width]; exact TRep.len (t := t) h
  | .pair a b, _, _, _, h => by
    obtain ⟨c1, c2, o1, o2, rfl, _, h1, h2⟩ := h
    simp [TRep.len h1, TRep.len h2, Ty.width]
  | .arr n t, _, _, _, h => by
    obtain ⟨css, ows, rfl, _, hn, ha⟩ := h
    rw [flat_len (w := t.width) fun c hc => by obtain ⟨b, o, hb⟩ := All3.mem_l ha c hc; exact TRep.len hb]
    rw [(All3.len ha).1, hn, Ty.width]
  | .list _, _, _, _, h => by obtain ⟨_, _, a, cap, css, ows, h, _⟩ := h; simp [h, Ty.width]
  | .vec _ _, _, _, _, h => by obtain ⟨a, cap, h, _⟩ := h; simp [h, Ty.width]
  | .map _ _, _, _, _, h => h.elim
  | .box _, _, _, _, h => by obtain ⟨b, es, o, h, _⟩ := h; simp [h, Ty.width]
  | .ref _, _, _, _, h => by obtain ⟨a, _, h, _⟩ := h.2; simp [h, Ty.width]
  | .nil, _, _, _, h => by simp [h.2, Ty.width]
  | .hole _, _, _, _, h => by simp [h.2.1, Ty.width]

theorem TRep.one : ∀ {t : Ty} {cs : List Value} {x : t.den} {ow : List Nat}, TRep w I σ t cs x ow → ∀ c ∈ cs, c.oneCell' = true
  | .int _, _, _, _, h, c, hc => by rw [h.2.1] at hc; simp at hc; subst hc; rfl
  | .bool, _, _, _, h, c, hc => by rw [h.2] at hc; simp at hc; subst hc; rfl
  | .str, _, _, _, h, c, hc => by obtain ⟨s, h, _⟩ := h.2; rw [h] at hc; simp at hc; subst hc; rfl
  | .unit, _, _, _, h, c, hc => by rw [h.2] at hc; simp at hc
  | .one t, _, _, _, h, c, hc => TRep.one (t := t) h c hc
  | .pair a b, _, _, _, h, c, hc => by
    obtain ⟨c1, c2, o1, o2, rfl, _, h1, h2⟩ := h
    rcases List.mem_append.1 hc with hc | hc
    · exact TRep.one h1 c hc
    · exact TRep.one h2 c hc
  | .arr n t, _, _, _, h, c, hc => by
    obtain ⟨css, ows, rfl, _, hn, ha⟩ := h
    obtain ⟨d, hd, hc⟩ := List.mem_flatten.1 hc
    obtain ⟨b, o, hb⟩ := All3.mem_l ha d hd
    exact TRep.one (t := t) hb c hc
  | .list _, _, _, _, h, c, hc => by obtain ⟨_, _, a, cap, css, ows, h, _⟩ := h; rw [h] at hc; simp at hc; subst hc; rfl
  | .vec _ _, _, _, _, h, c, hc => by obtain ⟨a, cap, h, _⟩ := h; rw [h] at hc; simp at hc; subst hc; rfl
  | .map _ _, _, _, _, h, _, _ => h.elim
  | .box _, _, _, _, h, c, hc => by obtain ⟨b, es, o, h, _⟩ := h; rw [h] at hc; simp at hc; subst hc; rfl
  | .ref _, _, _, _, h, c, hc => by obtain ⟨a, _, h, _⟩ := h.2; rw [h] at hc; simp at hc; subst hc; rfl
  | .nil, _, _, _, h, c, hc => by rw [h.2] at hc; simp at hc; subst hc; rfl
  | .hole _, _, _, _, h, c, hc => h.2.2 c hc

theorem flatten_nil {A : Type} : ∀ {l : List (List A)}, (∀ a ∈ l, a = []) → l.flatten = []
  | [], _ => rfl
  | a :: r, h => by rw [List.flatten_cons, h a (by simp), flatten_nil fun a ha => h a (List.mem_cons_of_mem _ ha)]; rfl

theorem TRep.pure_ow : ∀ {t : Ty} {cs : List Value} {x : t.den} {ow : List Nat}, t.pure = true → TRep w I σ t cs x ow → ow = []
  | .int _, _, _, _, _, h => h.1
  | .bool, _, _, _, _, h => h.1
  | .str, _, _, _, _, h => h.1
  | .unit, _, _, _, _, h => h.1
  | .one t, _, _, _, hp, h => TRep.pure_ow (t := t) hp h
  | .pair a b, _, _, _, hp, h => by
    simp only [Ty.pure, Bool.and_eq_true] at hp
    obtain ⟨c1, c2, o1, o2, _, rfl, h1, h2⟩ := h
    rw [TRep.pure_ow hp.1 h1, TRep.pure_ow hp.2 h2]; rfl
  | .arr n t, _, _, _, hp, h => by
    obtain ⟨css, ows, _, rfl, hn, ha⟩ := h
    exact flatten_nil fun o ho => by obtain ⟨a, b, _, _, hr⟩ := All3.mem_r ha o ho; exact TRep.pure_ow (t := t) hp hr
  | .list _, _, _, _, _, h => h.1
  | .vec _ _, _, _, _, hp, _ => by simp [Ty.pure] at hp
  | .map _ _, _, _, _, hp, _ => by simp [Ty.pure] at hp
  | .box _, _, _, _, hp, _ => by simp [Ty.pure] at hp
  | .ref _, _, _, _, hp, _ => by simp [Ty.pure] at hp
  | .nil, _, _, _, hp, _ => by simp [Ty.pure] at hp
  | .hole _, _, _, _, hp, _ => by simp [Ty.pure] at hp

/-- Data that is what it was: its blocks are as they were. -/
theorem TRep.frame (hI : I.le I') : ∀ {t : Ty} {cs : List Value} {x : t.den} {ow : List Nat}, TRep w I σ t cs x ow →
    (∀ b ∈ ow, w'.heap[b]? = w.heap[b]? ∧ ∀ j, I' b j = I b j) → (∀ j ∈ t.refs, σ' j = σ j) → TRep w' I' σ' t cs x ow
  | .int _, _, _, _, h, _, _ => h
  | .bool, _, _, _, h, _, _ => h
  | .str, _, _, _, h, _, _ => h
  | .unit, _, _, _, h, _, _ => h
  | .one t, _, _, _, h, hb, hr => TRep.frame hI (t := t) h hb hr
  | .pair a b, _, _, _, h, hb, hr => by
    obtain ⟨c1, c2, o1, o2, rfl, rfl, h1, h2⟩ := h
    exact ⟨c1, c2, o1, o2, rfl, rfl, TRep.frame hI h1 (fun b hb' => hb b (by simp [hb'])) (fun j hj => hr j (by simp [Ty.refs, hj])),
      TRep.frame hI h2 (fun b hb' => hb b (by simp [hb'])) (fun j hj => hr j (by simp [Ty.refs, hj]))⟩
  | .arr n t, _, _, _, h, hb, hr => by
    obtain ⟨css, ows, rfl, rfl, hn, ha⟩ := h
    exact ⟨css, ows, rfl, rfl, hn, ha.mono fun c x o ho _ h => TRep.frame hI (t := t) h (fun b hb' => hb b (List.mem_flatten.2 ⟨o, ho, hb'⟩)) hr⟩
  | .list t, _, _, _, h, hb, hr => by
    obtain ⟨rfl, hp, a, cap, css, ows, rfl, h1, h2, ha, hi⟩ := h
    refine ⟨rfl, hp, a, cap, css, ows, rfl, h1, h2, ha.mono fun c x o _ _ h => TRep.frame hI (t := t) h (fun b hb' => by rw [TRep.pure_ow hp h] at hb'; simp at hb') hr, fun hx => ?_⟩
    obtain ⟨b, o, e, hj⟩ := hi hx
    exact ⟨b, o, e, fun j v hv => hI _ _ _ (hj j v hv)⟩
  | .vec s t, _, _, _, h, hb, hr => by
    obtain ⟨a, cap, rfl, h1, h2, h⟩ := h
    refine ⟨a, cap, rfl, h1, h2, ?_⟩
    rcases h with h | ⟨b, es, css, ows, rfl, ⟨eid, hblk⟩, hes, hcs, rfl, ha, hi, hs⟩
    · exact .inl h
    · have hb0 := hb b (by simp)
      refine .inr ⟨b, es, css, ows, rfl, ⟨eid, by rw [hb0.1, hblk]⟩, hes, hcs, rfl,
        ha.mono fun c x o ho _ h => TRep.frame hI (t := t) h (fun b hb' => hb b (by simp; exact .inr ⟨o, ho, hb'⟩)) hr, fun j v hv => hi j v (by rw [← hb0.2]; exact hv), fun h => ⟨(hs h).1, fun j v hv => by rw [hb0.2]; exact (hs h).2 j v hv⟩⟩
  | .map _ _, _, _, _, h, _, _ => h.elim
  | .box t, _, _, _, h, hb, hr => by
    obtain ⟨b, es, o, rfl, ⟨eid, hblk⟩, rfl, ht, hi⟩ := h
    have hb0 := hb b (by simp)
    exact ⟨b, es, o, rfl, ⟨eid, by rw [hb0.1, hblk]⟩, rfl, TRep.frame hI ht (fun b hb' => hb b (by simp [hb'])) hr, fun j => by rw [hb0.2]; exact hi j⟩
  | .ref id, _, _, _, h, _, hr => by
    obtain ⟨rfl, a, hs, rfl, h⟩ := h
    exact ⟨rfl, a, hs, rfl, by rw [hr id (by simp [Ty.refs])]; exact h⟩
  | .nil, _, _, _, h, _, _ => h
  | .hole _, _, _, _, h, _, _ => h

theorem pure_refs : ∀ {t : Ty}, t.pure = true → t.refs = []
  | .int _, _ | .bool, _ | .str, _ | .unit, _ => rfl
  | .one t, h | .arr _ t, h | .list t, h => by rw [Ty.refs]; exact pure_refs (t := t) h
  | .pair a b, h => by simp only [Ty.pure, Bool.and_eq_true] at h; rw [Ty.refs, pure_refs h.1, pure_refs h.2]; rfl
  | .vec _ _, h | .map _ _, h | .box _, h | .ref _, h | .nil, h | .hole _, h => by simp [Ty.pure] at h

/-- Data that owns nothing stays what it is. -/
theorem TRep.lift (hI : I.le I') {t : Ty} {cs : List Value} {x : t.den} {ow : List Nat} (hp : t.pure = true) (h : TRep w I σ t cs x ow) : TRep w' I' σ' t cs x ow :=
  h.frame hI (fun b hb => by rw [h.pure_ow hp] at hb; simp at hb) (fun j hj => by rw [pure_refs hp] at hj; simp at hj)
end

end Go.Ev

namespace Go.Ev

structure Spot where
  hop : Bool
  blk : Option Nat
  off : Nat
  cells : List Value

def hdrBlk (w : World) : List Value → Option (Nat × List Value)
  | [.slice (some a) _ _] => match w.heap[a.block]? with
    | some (.cells es _ _) => some (a.block, es.toList)
    | _ => none
  | [.pointer (some a)] => match w.heap[a.block]? with
    | some (.cells es _ _) => some (a.block, es.toList)
    | _ => none
  | _ => none

def spot (w : World) : Ty → List Value → Bool → Option Nat → Nat → Path → Option Spot
  | _, cs, h, b, o, [] => some ⟨h, b, o, cs⟩
  | .one t, cs, h, b, o, .o :: p => spot w t cs h b o p
  | .pair a _, cs, h, b, o, .l :: p => spot w a (cs.take a.width) h b o p
  | .pair a c, cs, h, b, o, .r :: p => spot w c (cs.drop a.width) h b (o + a.width) p
  | .arr _ t, cs, h, b, o, .at i :: p => spot w t ((cs.drop (i.toNat * t.width)).take t.width) h b (o + i.toNat * t.width) p
  | .vec _ t, cs, _, _, _, .at i :: p => (hdrBlk w cs).bind fun e => spot w t ((e.2.drop (i.toNat * t.width)).take t.width) true (some e.1) (i.toNat * t.width) p
  | .box t, cs, _, _, _, .d :: p => (hdrBlk w cs).bind fun e => spot w t e.2 true (some e.1) 0 p
  | _, _, _, _, _, _ :: _ => none

theorem spot_nil (w : World) (t : Ty) (cs : List Value) (h : Bool) (b : Option Nat) (o : Nat) : spot w t cs h b o [] = some ⟨h, b, o, cs⟩ := by cases t <;> rfl

def Inb : (t : Ty) → t.den → Path → Prop
  | .one t, x, .o :: p => Inb t x p
  | .pair a _, x, .l :: p => Inb a x.1 p
  | .pair _ b, x, .r :: p => Inb b x.2 p
  | .arr n t, x, .at i :: p => (0 ≤ i ∧ i < (n : Int)) ∧ Inb t (rd (α := t.den) x i) p
  | .vec _ t, x, .at i :: p => (0 ≤ i ∧ i < ((x : List t.den).length : Int)) ∧ Inb t (rd (α := t.den) x i) p
  | .box t, x, .d :: p => Inb t x p
  | _, _, _ => True

def splice {α : Type} (l : List α) (k : Nat) (m : List α) : List α := l.take k ++ m ++ l.drop (k + m.length)

section
variable {α : Type}
theorem splice_len {l : List α} {k : Nat} {m : List α} (h : k + m.length ≤ l.length) : (splice l k m).length = l.length := by
  simp [splice]; omega
theorem splice_l {l1 l2 : List α} {k : Nat} {m : List α} (h : k + m.length ≤ l1.length) : splice (l1 ++ l2) k m = splice l1 k m ++ l2 := by
  simp only [splice, List.append_assoc]
  rw [List.take_append_of_le_length (by omega), List.drop_append_of_le_length h]
theorem splice_r {l1 l2 : List α} {k : Nat} {m : List α} (h : l1.length ≤ k) : splice (l1 ++ l2) k m = l1 ++ splice l2 (k - l1.length) m := by
  simp only [splice, List.append_assoc]
  rw [List.take_append, List.take_of_length_le h, List.drop_append, List.drop_eq_nil_of_le (by omega : l1.length ≤ k + m.length)]
  simp only [List.append_assoc, List.nil_append]
  rw [show k + m.length - l1.length = k - l1.length + m.length from by omega]
theorem splice_all {l m : List α} (h : l.length = m.length) : splice l 0 m = m := by
  simp [splice, h.symm]
theorem splice_same {l : List α} {k n : Nat} (h : k + n ≤ l.length) : splice l k ((l.drop k).take n) = l := by
  have e : ((l.drop k).take n).length = n := by simp; omega
  simp only [splice, e]
  rw [List.append_assoc, ← List.drop_drop]
  conv => rhs; rw [← List.take_append_drop k l, ← List.take_append_drop n (l.drop k)]
end

/-- A block that is written, or is as it was. -/
def BlkTo (w w' : World) (lh : Bool) (s : Spot) (cu : List Value) (c : Nat) : Prop :=
  if lh = true ∧ s.blk = some c then ∃ es es', Blk w c es ∧ Blk w' c es' ∧ es'.toList = splice es.toList s.off cu else w'.heap[c]? = w.heap[c]?

theorem rd_of_split {α : Type} [Inhabited α] {i : Int} {b1 b2 : List α} {b : α} (h : b1.length = i.toNat) : rd (b1 ++ b :: b2) i = b := by
  rw [rd_eq, List.getD_eq_getElem?_getD, List.getElem?_append_right (by omega)]
  simp [h]
theorem wr_of_split {α : Type} {i : Int} {b1 b2 : List α} {b c : α} (h : b1.length = i.toNat) : wr (b1 ++ b :: b2) i c = b1 ++ c :: b2 := by
  rw [wr_eq, List.set_append, if_neg (by omega), ← h, Nat.sub_self, List.set_cons_zero]

theorem cast_eq_some {t u : Ty} {x : t.den} {z : u.den} (h : Ty.cast x u = some z) : ∃ e : t = u, e ▸ x = z := by
  unfold Ty.cast at h
  split at h
  · rename_i e; exact ⟨e, by simpa using h⟩
  · simp at h

theorem BlkTo.same {w w' : World} {s s' : Spot} {cu : List Value} {c c0 : Nat} {lh : Bool} (h : BlkTo w w' true s cu c) (hs : s.blk = some c0) (hne : c ≠ c0) (h' : lh = true → s'.blk = some c → False) :
    BlkTo w w' lh s' cu c := by
  unfold BlkTo at *
  rw [if_neg (by rintro ⟨_, e⟩; rw [hs] at e; exact hne (by injection e with e; exact e.symm))] at h
  by_cases hl : lh = true
  · rw [if_neg (by rintro ⟨_, e⟩; exact h' hl e)]; exact h
  · rw [if_neg (by rintro ⟨e, _⟩; exact hl e)]; exact h

theorem BlkTo.of_false {w w' : World} {s s' : Spot} {cu cu' : List Value} {c : Nat} (h : BlkTo w w' false s cu c) : BlkTo w w' false s' cu' c := by
  unfold BlkTo at *; simpa using h

theorem BlkTo.heap {w w' : World} {s : Spot} {cu : List Value} {c : Nat} (h : BlkTo w w' false s cu c) : w'.heap[c]? = w.heap[c]? := by
  unfold BlkTo at h; simpa using h

theorem seg_l {α : Type} {c1 c2 : List α} {n : Nat} (h : c1.length = n) : (c1 ++ c2).take n = c1 := by
  subst h; simp
theorem seg_r {α : Type} {c1 c2 : List α} {n : Nat} (h : c1.length = n) : (c1 ++ c2).drop n = c2 := by
  subst h; simp

/-- The cells of an element, and what stands round it. -/
theorem seg_at {α : Type} {a1 a2 : List (List α)} {a : List α} {n i : Nat} (h1 : ∀ c ∈ a1, c.length = n) (ha : a.length = n) (hi : a1.length = i) :
    ((a1 ++ a :: a2).flatten.drop (i * n)).take n = a ∧ (a1 ++ a :: a2).flatten = a1.flatten ++ a ++ a2.flatten ∧ a1.flatten.length = i * n := by
  have e : a1.flatten.length = i * n := by rw [flat_len h1, hi]
  have f : (a1 ++ a :: a2).flatten = a1.flatten ++ a ++ a2.flatten := by simp
  refine ⟨?_, f, e⟩
  rw [f, List.append_assoc, seg_r e, seg_l ha]

theorem BlkTo.rest {w w' : World} {lh : Bool} {s : Spot} {cu : List Value} {c : Nat} (h : BlkTo w w' lh s cu c) (hne : lh = true → s.blk = some c → False) : w'.heap[c]? = w.heap[c]? := by
  unfold BlkTo at h
  rw [if_neg (by rintro ⟨a, b⟩; exact hne a b)] at h
  exact h

section
variable {w w' : World} {I : Imm} {σ : Nat → Value}

/-- In blocks that are as they were each place is where it was. -/
theorem spot_frame : ∀ (p : Path) {t : Ty} {cs : List Value} {x : t.den} {ow : List Nat} (h : Bool) (b : Option Nat) (o : Nat) {v : TV}, TRep w I σ t cs x ow → (∀ c ∈ ow, w'.heap[c]? = w.heap[c]?) →
    t.get x p = some v → Inb t x p → spot w' t cs h b o p = spot w t cs h b o p := by
  intro p
  induction p with
  | nil => intros; simp [spot]
  | cons s p ih =>
    intro t cs x ow h b o v hr hb hg hi
    cases s <;> cases t <;> simp only [Ty.get, reduceCtorEq] at hg
    case o.one => simp only [spot]; exact ih h b o hr hb hg hi
    case l.pair =>
      obtain ⟨c1, c2, o1, o2, rfl, rfl, h1, h2⟩ := hr
      simp only [spot]; rw [seg_l h1.len]
      exact ih h b o h1 (fun c hc => hb c (by simp [hc])) hg hi
    case r.pair =>
      obtain ⟨c1, c2, o1, o2, rfl, rfl, h1, h2⟩ := hr
      simp only [spot]; rw [seg_r h1.len]
      exact ih h b _ h2 (fun c hc => hb c (by simp [hc])) hg hi
    case «at».arr i n t =>
      obtain ⟨css, ows, rfl, rfl, hlen, ha⟩ := hr
      obtain ⟨⟨hi1, hi2⟩, hi3⟩ := hi
      obtain ⟨a1, a, a2, b1, xb, b2, c1, c, c2, rfl, rfl, rfl, h1, h2, h3, h4, h5, h6⟩ := All3.split (i := i.toNat) ha (by rw [hlen]; omega)
      have hw1 : ∀ c ∈ a1, c.length = t.width := fun c hc => by obtain ⟨_, _, hh⟩ := All3.mem_l h4 c hc; exact hh.len
      obtain ⟨g1, _, _⟩ := seg_at (a2 := a2) hw1 h5.len h1
      rw [rd_of_split (α := t.den) h2] at hg hi3
      simp only [spot]; rw [g1]
      exact ih h b _ h5 (fun d hd => hb d (by simp [hd])) hg hi3
    case «at».vec i sl t =>
      obtain ⟨ad, cap, rfl, hcap, hmax, hr⟩ := hr
      obtain ⟨⟨hi1, hi2⟩, hi3⟩ := hi
      rcases hr with ⟨_, rfl, _⟩ | ⟨b0, es, css, ows, rfl, ⟨eid, hblk⟩, hes, hcs, rfl, ha, him0, hsl⟩
      · simp at hi2; omega
      obtain ⟨a1, a, a2, b1, xb, b2, c1, c, c2, rfl, rfl, rfl, h1, h2, h3, h4, h5, h6⟩ := All3.split (i := i.toNat) ha (by omega)
      have hw1 : ∀ c ∈ a1, c.length = t.width := fun c hc => by obtain ⟨_, _, hh⟩ := All3.mem_l h4 c hc; exact hh.len
      obtain ⟨g1, _, _⟩ := seg_at (a2 := a2) hw1 h5.len h1
      rw [rd_of_split (α := t.den) h2] at hg hi3
      generalize hL : (b1 ++ xb :: b2).length = L at *
      have hseg : (es.toList.drop (i.toNat * t.width)).take t.width = a := by
        rw [← g1, hcs, List.drop_take, List.take_take, Nat.min_eq_left]
        have : (i.toNat + 1) * t.width ≤ L * t.width := Nat.mul_le_mul_right _ (by omega)
        rw [Nat.add_mul, Nat.one_mul] at this
        omega
      have hb0 := hb b0 (by simp)
      simp only [spot, hdrBlk, hb0, hblk, Option.bind_some]
      rw [hseg]
      exact ih true _ _ h5 (fun d hd => hb d (by simp [hd])) hg hi3
    case d.box t =>
      obtain ⟨b0, es, o1, rfl, ⟨eid, hblk⟩, rfl, hr1, hi0⟩ := hr
      have hb0 := hb b0 (by simp)
      simp only [spot, hdrBlk, hb0, hblk, Option.bind_some]
      exact ih true _ _ hr1 (fun d hd => hb d (by simp [hd])) hg hi
end

/-- Is a value of a type one handle? -/
def Ty.handle : Ty → Bool
  | .vec _ _ | .map _ _ | .box _ => true
  | _ => false

/-- How a handle counts: of a slice the width of its elements. -/
def Ty.hk : Ty → Nat
  | .vec _ e => e.width
  | _ => 0

/-- Two spots at one place; of a handle the same cell, if it was not written. -/
structure Alike (s s' : Spot) (hd : Bool) : Prop where
  blk : s'.blk = s.blk
  off : s'.off = s.off
  cells : hd = true → s'.cells = s.cells

structure Focus (w : World) (I : Imm) (σ : Nat → Value) (t : Ty) (cs : List Value) (x : t.den) (ow : List Nat) (p : Path) (u : Ty) (y : u.den) (h : Bool) (b : Option Nat) (o : Nat)
    (s : Spot) (ou pre post : List Nat) (lh : Bool) : Prop where
  spot : spot w t cs h b o p = some s
  rep : TRep w I σ u s.cells y ou
  own : ow = pre ++ ou ++ post
  hop : s.hop = (h || lh)
  here : lh = false → s.blk = b ∧ o ≤ s.off ∧ s.cells = (cs.drop (s.off - o)).take u.width ∧ s.off - o + u.width ≤ cs.length
  there : lh = true → ∃ c es, s.blk = some c ∧ c ∈ pre ∧ Blk w c es ∧ s.cells = (es.toList.drop s.off).take u.width ∧ s.off + u.width ≤ es.size
  plug : ∀ (w' : World) (I' : Imm) (σ' : Nat → Value) (u' : Ty) (y' : u'.den) (cu : List Value) (ou' : List Nat) (z : TV), u'.width = u.width → TRep w' I' σ' u' cu y' ou' →
    t.set x p ⟨u', y'⟩ = some z → (∀ j ∈ t.refs, σ' j = σ j) → I.le I' → (∀ c ∈ pre ++ post, ∀ j, I' c j = I c j) → (∀ c ∈ pre ++ post, BlkTo w w' lh s cu c) →
    TRep w' I' σ' z.t (if lh then cs else splice cs (s.off - o) cu) z.x (pre ++ ou' ++ post)
  stab : ∀ (w' : World) (cu : List Value), cu.length = u.width → (∀ c ∈ pre ++ post, BlkTo w w' lh s cu c) → ∀ (p' : Path) (v : TV), Path.above p p' = false → t.get x p' = some v → Inb t x p' →
    ∃ s1 s2, Ev.spot w t cs h b o p' = some s1 ∧ Ev.spot w' t (if lh then cs else splice cs (s.off - o) cu) h b o p' = some s2 ∧ Alike s1 s2 (v.t.handle && !Path.sim p p')

/-- Each place is somewhere. -/
theorem focus0 {w : World} {I : Imm} {σ : Nat → Value} : ∀ (p : Path) (t : Ty) (cs : List Value) (x : t.den) (ow : List Nat) (u : Ty) (y : u.den) (h : Bool) (b : Option Nat) (o : Nat),
    TRep w I σ t cs x ow → ow.Nodup → t.get x p = some ⟨u, y⟩ → Inb t x p → ∃ (s : Spot) (_ou _pre _post : List Nat) (_lh : Bool), spot w t cs h b o p = some s := by
  intro p
  induction p with
  | nil => intros; exact ⟨_, [], [], [], true, by simp [spot]; rfl⟩
  | cons s p ih =>
    intro t cs x ow u y h b o hr hn hg hi
    cases s <;> cases t <;> simp only [Ty.get, reduceCtorEq] at hg
    case o.one => simp only [spot]; exact ih _ _ _ _ _ _ h b o hr hn hg hi
    case l.pair =>
      obtain ⟨c1, c2, o1, o2, rfl, rfl, h1, h2⟩ := hr
      simp only [spot]; rw [seg_l h1.len]
      exact ih _ _ _ _ _ _ h b o h1 (List.nodup_append.1 hn).1 hg hi
    case r.pair =>
      obtain ⟨c1, c2, o1, o2, rfl, rfl, h1, h2⟩ := hr
      simp only [spot]; rw [seg_r h1.len]
      exact ih _ _ _ _ _ _ h b _ h2 (List.nodup_append.1 hn).2.1 hg hi
    case «at».arr i n t =>
      obtain ⟨css, ows, rfl, rfl, hlen, ha⟩ := hr
      obtain ⟨⟨hi1, hi2⟩, hi3⟩ := hi
      obtain ⟨a1, a, a2, b1, xb, b2, c1, c, c2, rfl, rfl, rfl, h1, h2, h3, h4, h5, h6⟩ := All3.split (i := i.toNat) ha (by rw [hlen]; omega)
      have hw1 : ∀ c ∈ a1, c.length = t.width := fun c hc => by obtain ⟨_, _, hh⟩ := All3.mem_l h4 c hc; exact hh.len
      obtain ⟨g1, _, _⟩ := seg_at (a2 := a2) hw1 h5.len h1
      rw [rd_of_split (α := t.den) h2] at hg hi3
      have hnf : (c1.flatten ++ c ++ c2.flatten).Nodup := by simpa using hn
      simp only [spot]; rw [g1]
      exact ih _ _ _ _ _ _ h b _ h5 (List.nodup_append.1 (List.nodup_append.1 hnf).1).2.1 hg hi3
    case «at».vec i sl t =>
      obtain ⟨ad, cap, rfl, hcap, hmax, hr⟩ := hr
      obtain ⟨⟨hi1, hi2⟩, hi3⟩ := hi
      rcases hr with ⟨_, rfl, _⟩ | ⟨b0, es, css, ows, rfl, ⟨eid, hblk⟩, hes, hcs, rfl, ha, him0, hsl⟩
      · simp at hi2; omega
      obtain ⟨a1, a, a2, b1, xb, b2, c1, c, c2, rfl, rfl, rfl, h1, h2, h3, h4, h5, h6⟩ := All3.split (i := i.toNat) ha (by omega)
      have hw1 : ∀ c ∈ a1, c.length = t.width := fun c hc => by obtain ⟨_, _, hh⟩ := All3.mem_l h4 c hc; exact hh.len
      obtain ⟨g1, _, _⟩ := seg_at (a2 := a2) hw1 h5.len h1
      rw [rd_of_split (α := t.den) h2] at hg hi3
      have hnf : (c1.flatten ++ c ++ c2.flatten).Nodup := by simpa using (List.nodup_cons.1 hn).2
      generalize hL : (b1 ++ xb :: b2).length = L at *
      have hseg : (es.toList.drop (i.toNat * t.width)).take t.width = a := by
        rw [← g1, hcs, List.drop_take, List.take_take, Nat.min_eq_left]
        have : (i.toNat + 1) * t.width ≤ L * t.width := Nat.mul_le_mul_right _ (by omega)
        rw [Nat.add_mul, Nat.one_mul] at this
        omega
      simp only [spot, hdrBlk, hblk, Option.bind_some]
      rw [hseg]
      exact ih _ _ _ _ _ _ true _ _ h5 (List.nodup_append.1 (List.nodup_append.1 hnf).1).2.1 hg hi3
    case d.box t =>
      obtain ⟨b0, es, o1, rfl, ⟨eid, hblk⟩, rfl, hr1, hi0⟩ := hr
      simp only [spot, hdrBlk, hblk, Option.bind_some]
      exact ih _ _ _ _ _ _ true _ _ hr1 (List.nodup_cons.1 hn).2 hg hi

/-- A list in which one element is another one: as it stands round any other place. -/
theorem swap_at {α : Type} {i j : Nat} {a1 a2 d1 d2 : List α} {a d : α} (h1 : a1.length = i) (h2 : d1.length = j) (e : a1 ++ a :: a2 = d1 ++ d :: d2) (hij : ¬ j = i) (n : α) :
    ∃ z1 z2, a1 ++ n :: a2 = z1 ++ d :: z2 ∧ z1.length = j ∧ ∀ c ∈ z1, c = n ∨ c ∈ d1 := by
  have hs : a1 ++ n :: a2 = (d1 ++ d :: d2).set i n := by
    rw [← e, List.set_append, if_neg (by omega), ← h1, Nat.sub_self, List.set_cons_zero]
  rw [hs, List.set_append]
  by_cases hlt : i < d1.length
  · rw [if_pos hlt]
    exact ⟨d1.set i n, d2, rfl, by simpa using h2, fun c hc => by
      rcases List.mem_or_eq_of_mem_set hc with h | h
      · exact .inr h
      · exact .inl h⟩
  · rw [if_neg hlt]
    obtain ⟨m, hm⟩ : ∃ m, i - d1.length = m + 1 := ⟨i - d1.length - 1, by omega⟩
    rw [hm, List.set_cons_succ]
    exact ⟨d1, d2.set m n, rfl, h2, fun c hc => .inr hc⟩

/-- What one element owns, no other one owns. -/
theorem not_mem_other {i j : Nat} {c1 c2 n1 n2 : List (List Nat)} {c n : List Nat} (hn : (c1 ++ c :: c2).flatten.Nodup) (e : c1 ++ c :: c2 = n1 ++ n :: n2) (h1 : c1.length = i) (h2 : n1.length = j) (hij : ¬ j = i) :
    ∀ d ∈ n, (d ∈ c1.flatten ∨ d ∈ c2.flatten) ∧ d ∉ c := by
  intro d hd
  have hnf : (c1.flatten ++ (c ++ c2.flatten)).Nodup := by simpa using hn
  obtain ⟨m1, m2, m3⟩ := List.nodup_append.1 hnf
  have hmem : n ∈ c1 ∨ n ∈ c2 := by
    have hg : (c1 ++ c :: c2)[j]? = some n := by rw [e, List.getElem?_append_right (by omega)]; simp [h2]
    by_cases hlt : j < i
    · rw [List.getElem?_append_left (by omega)] at hg
      exact .inl (List.mem_of_getElem? hg)
    · rw [List.getElem?_append_right (by omega)] at hg
      obtain ⟨m, hm⟩ : ∃ m, j - c1.length = m + 1 := ⟨j - c1.length - 1, by omega⟩
      rw [hm, List.getElem?_cons_succ] at hg
      exact .inr (List.mem_of_getElem? hg)
  rcases hmem with h | h
  · have hf : d ∈ c1.flatten := List.mem_flatten.2 ⟨n, h, hd⟩
    exact ⟨.inl hf, fun hc => m3 _ hf _ (by simp [hc]) rfl⟩
  · have hf : d ∈ c2.flatten := List.mem_flatten.2 ⟨n, h, hd⟩
    exact ⟨.inr hf, fun hc => (List.nodup_append.1 m2).2.2 _ hc _ hf rfl⟩

theorem focus {w : World} {I : Imm} {σ : Nat → Value} : ∀ (p : Path) (t : Ty) (cs : List Value) (x : t.den) (ow : List Nat) (u : Ty) (y : u.den) (h : Bool) (b : Option Nat) (o : Nat),
    TRep w I σ t cs x ow → ow.Nodup → t.get x p = some ⟨u, y⟩ → Inb t x p → ∃ s ou pre post lh, Focus w I σ t cs x ow p u y h b o s ou pre post lh := by
  intro p
  induction p with
  | nil =>
    intro t cs x ow u y h b o hr hn hg hi
    simp only [Ty.get, Option.some.injEq, TV.mk.injEq] at hg
    obtain ⟨rfl, hg⟩ := hg
    obtain rfl := eq_of_heq hg
    refine ⟨⟨h, b, o, cs⟩, ow, [], [], false, ⟨by simp [spot], hr, by simp, by simp, fun _ => ⟨rfl, Nat.le_refl _, ?_, ?_⟩, by simp, ?_, ?_⟩⟩
    · simp [← hr.len]
    · simp [hr.len]
    · intro w' I' σ' u' y' cu ou' z hw hr' hs _ _ _ _
      simp only [Ty.set, Option.some.injEq] at hs
      subst hs
      simp only [Bool.false_eq_true, if_false, Nat.sub_self, List.nil_append, List.append_nil]
      rw [splice_all (by rw [hr.len, hr'.len, hw])]
      exact hr'
    · intro w' cu hcu hbl p' v ha hp hip
      cases p' with
      | cons s' p => simp [Path.above] at ha
      | nil => exact ⟨_, _, spot_nil .., spot_nil .., rfl, rfl, fun e => by simp [Path.sim] at e⟩
  | cons st p ih =>
    intro t cs x ow u y h b o hr hn hg hi
    cases st with
    | o =>
      cases t <;> simp only [Ty.get, reduceCtorEq] at hg
      rename_i t
      obtain ⟨s, ou, pre, post, lh, F⟩ := ih t cs x ow u y h b o hr hn hg hi
      refine ⟨s, ou, pre, post, lh, ⟨by simp only [spot]; exact F.spot, F.rep, F.own, F.hop, F.here, F.there, ?_, ?_⟩⟩
      intro w' I' σ' u' y' cu ou' z hw hr' hs hre hle him hbl
      simp only [Ty.set, Option.bind_eq_some_iff] at hs
      obtain ⟨z', hs, hz⟩ := hs
      simp only [Option.some.injEq] at hz
      subst hz
      exact F.plug w' I' σ' u' y' cu ou' z' hw hr' hs hre hle him hbl
      intro w' cu hcu hbl p' v ha hp hip
      cases p' with
      | nil =>
        simp only [Ty.get, Option.some.injEq] at hp; subst hp
        exact ⟨_, _, spot_nil .., spot_nil .., rfl, rfl, fun e => by simp [Ty.handle] at e⟩
      | cons s' p' =>
        cases s' <;> simp only [Ty.get, reduceCtorEq] at hp
        obtain ⟨s1, s2, k1, k2, k3⟩ := F.stab w' cu hcu hbl p' v ha hp hip
        exact ⟨s1, s2, by simp only [spot]; exact k1, by simp only [spot]; exact k2, k3⟩
    | l =>
      cases t <;> simp only [Ty.get, reduceCtorEq] at hg
      rename_i a c
      obtain ⟨c1, c2, o1, o2, rfl, rfl, hr1, hr2⟩ := hr
      obtain ⟨hn1, hn2, hn3⟩ := List.nodup_append.1 hn
      obtain ⟨s, ou, pre, post, lh, F⟩ := ih a c1 x.1 o1 u y h b o hr1 hn1 hg hi
      refine ⟨s, ou, pre, post ++ o2, lh, ⟨by simp only [spot]; rw [seg_l hr1.len]; exact F.spot, F.rep, by rw [F.own]; simp, F.hop, fun e => ?_, F.there, ?_, ?_⟩⟩
      · obtain ⟨f1, f2, f3, f4⟩ := F.here e
        refine ⟨f1, f2, ?_, by simp; omega⟩
        rw [f3, List.drop_append_of_le_length (by omega), List.take_append_of_le_length (by simp; omega)]
      · intro w' I' σ' u' y' cu ou' z hw hr' hs hre hle him hbl
        simp only [Ty.set, Option.bind_eq_some_iff] at hs
        obtain ⟨z', hs, hz⟩ := hs
        simp only [Option.some.injEq] at hz
        subst hz
        have hq := F.plug w' I' σ' u' y' cu ou' z' hw hr' hs (fun j hj => hre j (by simp [Ty.refs, hj])) hle
          (fun c hc => him c (by simp at hc ⊢; rcases hc with hc | hc <;> simp [hc])) (fun c hc => hbl c (by simp at hc ⊢; rcases hc with hc | hc <;> simp [hc]))
        have h2 : TRep w' I' σ' c c2 x.2 o2 := hr2.frame hle (fun d hd => by
          refine ⟨?_, fun j => him d (by simp [hd]) j⟩
          have hb := hbl d (by simp [hd])
          unfold BlkTo at hb
          rw [if_neg] at hb
          · exact hb
          · rintro ⟨e1, e2⟩
            obtain ⟨c', es, f1, f2, _⟩ := F.there e1
            rw [f1] at e2
            injection e2 with e2
            subst e2
            exact hn3 _ (by rw [F.own]; simp [f2]) _ hd rfl) (fun j hj => hre j (by simp [Ty.refs, hj]))
        refine ⟨_, c2, pre ++ ou' ++ post, o2, ?_, by simp, hq, h2⟩
        cases lh with
        | true => simp
        | false =>
          simp only [Bool.false_eq_true, if_false]
          rw [splice_l (by rw [hr'.len, hw]; exact (F.here rfl).2.2.2)]
      · intro w' cu hcu hbl p' v ha hp hip
        cases p' with
        | nil =>
          simp only [Ty.get, Option.some.injEq] at hp; subst hp
          exact ⟨_, _, spot_nil .., spot_nil .., rfl, rfl, fun e => by simp [Ty.handle] at e⟩
        | cons s' p' =>
          have hcs : (if lh then c1 ++ c2 else splice (c1 ++ c2) (s.off - o) cu) = (if lh then c1 else splice c1 (s.off - o) cu) ++ c2 := by
            cases lh with
            | true => simp
            | false => simp only [Bool.false_eq_true, if_false]; rw [splice_l (by rw [hcu]; exact (F.here rfl).2.2.2)]
          have hl1 : (if lh then c1 else splice c1 (s.off - o) cu).length = a.width := by
            cases lh with
            | true => simpa using hr1.len
            | false => simp only [Bool.false_eq_true, if_false]; rw [splice_len (by rw [hcu]; exact (F.here rfl).2.2.2), hr1.len]
          rw [hcs]
          cases s' <;> simp only [Ty.get, reduceCtorEq] at hp
          · obtain ⟨s1, s2, k1, k2, k3⟩ := F.stab w' cu hcu (fun c hc => hbl c (by simp at hc ⊢; rcases hc with hc | hc <;> simp [hc])) p' v ha hp hip
            exact ⟨s1, s2, by simp only [spot]; rw [seg_l hr1.len]; exact k1, by simp only [spot]; rw [seg_l hl1]; exact k2, k3⟩
          · obtain ⟨s1, _, _, _, _, F'⟩ := focus0 p' c c2 x.2 o2 v.t v.x h b (o + a.width) hr2 hn2 hp hip
            refine ⟨s1, s1, by simp only [spot]; rw [seg_r hr1.len]; exact F', ?_, rfl, rfl, fun _ => rfl⟩
            simp only [spot]; rw [seg_r hl1]
            rw [spot_frame p' h b _ hr2 (fun d hd => (hbl d (by simp [hd])).rest fun e1 e2 => by
              obtain ⟨c', es, f1, f2, _⟩ := F.there e1
              rw [f1] at e2; injection e2 with e2; subst e2
              exact hn3 _ (by rw [F.own]; simp [f2]) _ hd rfl) hp hip]
            exact F'
    | r =>
      cases t <;> simp only [Ty.get, reduceCtorEq] at hg
      rename_i a c
      obtain ⟨c1, c2, o1, o2, rfl, rfl, hr1, hr2⟩ := hr
      obtain ⟨hn1, hn2, hn3⟩ := List.nodup_append.1 hn
      obtain ⟨s, ou, pre, post, lh, F⟩ := ih c c2 x.2 o2 u y h b (o + a.width) hr2 hn2 hg hi
      refine ⟨s, ou, o1 ++ pre, post, lh, ⟨by simp only [spot]; rw [seg_r hr1.len]; exact F.spot, F.rep, by rw [F.own]; simp, F.hop, fun e => ?_, fun e => ?_, ?_, ?_⟩⟩
      · obtain ⟨f1, f2, f3, f4⟩ := F.here e
        have hl := hr1.len
        refine ⟨f1, by omega, ?_, by simp; omega⟩
        rw [f3, List.drop_append, List.drop_eq_nil_of_le (by omega : c1.length ≤ s.off - o), List.nil_append, hl]
        rw [show s.off - o - a.width = s.off - (o + a.width) from by omega]
      · obtain ⟨c', es, f1, f2, f3⟩ := F.there e
        exact ⟨c', es, f1, by simp [f2], f3⟩
      · intro w' I' σ' u' y' cu ou' z hw hr' hs hre hle him hbl
        simp only [Ty.set, Option.bind_eq_some_iff] at hs
        obtain ⟨z', hs, hz⟩ := hs
        simp only [Option.some.injEq] at hz
        subst hz
        have hq := F.plug w' I' σ' u' y' cu ou' z' hw hr' hs (fun j hj => hre j (by simp [Ty.refs, hj])) hle
          (fun c hc => him c (by simp at hc ⊢; rcases hc with hc | hc <;> simp [hc])) (fun c hc => hbl c (by simp at hc ⊢; rcases hc with hc | hc <;> simp [hc]))
        have h1 : TRep w' I' σ' a c1 x.1 o1 := hr1.frame hle (fun d hd => by
          refine ⟨?_, fun j => him d (by simp [hd]) j⟩
          have hb := hbl d (by simp [hd])
          unfold BlkTo at hb
          rw [if_neg] at hb
          · exact hb
          · rintro ⟨e1, e2⟩
            obtain ⟨c', es, f1, f2, _⟩ := F.there e1
            rw [f1] at e2
            injection e2 with e2
            subst e2
            exact hn3 _ hd _ (by rw [F.own]; simp [f2]) rfl) (fun j hj => hre j (by simp [Ty.refs, hj]))
        refine ⟨c1, _, o1, pre ++ ou' ++ post, ?_, by simp, h1, hq⟩
        cases lh with
        | true => simp
        | false =>
          have hl := hr1.len
          obtain ⟨f1, f2, f3, f4⟩ := F.here rfl
          simp only [Bool.false_eq_true, if_false]
          rw [splice_r (by omega), hl, show s.off - o - a.width = s.off - (o + a.width) from by omega]
      · intro w' cu hcu hbl p' v ha hp hip
        cases p' with
        | nil =>
          simp only [Ty.get, Option.some.injEq] at hp; subst hp
          exact ⟨_, _, spot_nil .., spot_nil .., rfl, rfl, fun e => by simp [Ty.handle] at e⟩
        | cons s' p' =>
          have hcs : (if lh then c1 ++ c2 else splice (c1 ++ c2) (s.off - o) cu) = c1 ++ (if lh then c2 else splice c2 (s.off - (o + a.width)) cu) := by
            cases lh with
            | true => simp
            | false =>
              have hl := hr1.len
              obtain ⟨f1, f2, f3, f4⟩ := F.here rfl
              simp only [Bool.false_eq_true, if_false]
              rw [splice_r (by omega), hl, show s.off - o - a.width = s.off - (o + a.width) from by omega]
          rw [hcs]
          cases s' <;> simp only [Ty.get, reduceCtorEq] at hp
          · obtain ⟨s1, _, _, _, _, F'⟩ := focus0 p' a c1 x.1 o1 v.t v.x h b o hr1 hn1 hp hip
            refine ⟨s1, s1, by simp only [spot]; rw [seg_l hr1.len]; exact F', ?_, rfl, rfl, fun _ => rfl⟩
            simp only [spot]; rw [seg_l hr1.len]
            rw [spot_frame p' h b _ hr1 (fun d hd => (hbl d (by simp [hd])).rest fun e1 e2 => by
              obtain ⟨c', es, f1, f2, _⟩ := F.there e1
              rw [f1] at e2; injection e2 with e2; subst e2
              exact hn3 _ hd _ (by rw [F.own]; simp [f2]) rfl) hp hip]
            exact F'
          · obtain ⟨s1, s2, k1, k2, k3⟩ := F.stab w' cu hcu (fun c hc => hbl c (by simp at hc ⊢; rcases hc with hc | hc <;> simp [hc])) p' v ha hp hip
            exact ⟨s1, s2, by simp only [spot]; rw [seg_r hr1.len]; exact k1, by simp only [spot]; rw [seg_r hr1.len]; exact k2, k3⟩
    | d =>
      cases t <;> simp only [Ty.get, reduceCtorEq] at hg
      rename_i t
      obtain ⟨b0, es, o1, rfl, ⟨eid, hblk⟩, rfl, hr1, hi0⟩ := hr
      obtain ⟨hn1, hn2⟩ := List.nodup_cons.1 hn
      obtain ⟨s, ou, pre, post, lh, F⟩ := ih t es.toList x o1 u y true (some b0) 0 hr1 hn2 hg hi
      have hsp : spot w (.box t) [.pointer (some ⟨b0, 0, none⟩)] h b o (.d :: p) = some s := by
        simp only [spot, hdrBlk, hblk, Option.bind_some]; exact F.spot
      have hblk' : s.blk = some b0 ∨ ∃ c, s.blk = some c ∧ c ∈ o1 := by
        cases lh with
        | false => exact .inl (F.here rfl).1
        | true => obtain ⟨c, _, f1, f2, _⟩ := F.there rfl; exact .inr ⟨c, f1, by rw [F.own]; simp [f2]⟩
      refine ⟨s, ou, b0 :: pre, post, true, ⟨hsp, F.rep, by rw [F.own]; simp, by have := F.hop; simpa using this, by simp, fun _ => ?_, ?_, ?_⟩⟩
      · cases lh with
        | true => obtain ⟨c, es', f1, f2, f3⟩ := F.there rfl; exact ⟨c, es', f1, by simp [f2], f3⟩
        | false =>
          obtain ⟨f1, f2, f3, f4⟩ := F.here rfl
          exact ⟨b0, es, f1, by simp, ⟨eid, hblk⟩, by simpa using f3, by simpa using f4⟩
      · intro w' I' σ' u' y' cu ou' z hw hr' hs hre hle him hbl
        simp only [Ty.set, Option.bind_eq_some_iff] at hs
        obtain ⟨z', hs, hz⟩ := hs
        simp only [Option.some.injEq] at hz
        subst hz
        simp only [if_true]
        have hsub : ∀ c ∈ pre ++ post, BlkTo w w' lh s cu c := by
          intro c hc
          have hb := hbl c (by simp at hc ⊢; rcases hc with hc | hc <;> simp [hc])
          have hc1 : c ∈ o1 := by rw [F.own]; simp at hc ⊢; rcases hc with hc | hc <;> simp [hc]
          cases lh with
          | true => exact hb
          | false =>
            have hs0 := (F.here rfl).1
            unfold BlkTo at hb ⊢
            rw [if_neg (by simp)]
            rw [if_neg] at hb
            · exact hb
            · rintro ⟨_, e⟩
              rw [hs0] at e; injection e with e; subst e
              exact hn1 hc1
        have hq := F.plug w' I' σ' u' y' cu ou' z' hw hr' hs hre hle (fun c hc => him c (by simp at hc ⊢; rcases hc with hc | hc <;> simp [hc])) hsub
        have hb0 := hbl b0 (by simp)
        cases lh with
        | false =>
          have hs0 := (F.here rfl).1
          unfold BlkTo at hb0
          rw [if_pos ⟨rfl, hs0⟩] at hb0
          obtain ⟨es1, es', ⟨e1, hb1⟩, hb2, he⟩ := hb0
          rw [hblk] at hb1
          injection hb1 with hb1
          injection hb1 with hb1
          subst hb1
          simp only [Bool.false_eq_true, if_false, Nat.sub_zero] at hq
          rw [← he] at hq
          exact ⟨b0, es', pre ++ ou' ++ post, rfl, hb2, by simp, hq, fun j => by rw [him b0 (by simp)]; exact hi0 j⟩
        | true =>
          have hs0 := F.there rfl
          obtain ⟨c, es1, f1, f2, _⟩ := hs0
          unfold BlkTo at hb0
          rw [if_neg] at hb0
          · simp only [if_true] at hq
            exact ⟨b0, es, pre ++ ou' ++ post, rfl, ⟨eid, by rw [hb0, hblk]⟩, by simp, hq, fun j => by rw [him b0 (by simp)]; exact hi0 j⟩
          · rintro ⟨_, e⟩
            rw [f1] at e; injection e with e; subst e
            exact hn1 (by rw [F.own]; simp [f2])
      · intro w' cu hcu hbl p' v ha hp hip
        simp only [if_true]
        cases p' with
        | nil => exact ⟨_, _, spot_nil .., spot_nil .., rfl, rfl, fun _ => rfl⟩
        | cons s' p' =>
          cases s' <;> simp only [Ty.get, reduceCtorEq] at hp
          have hsub : ∀ c ∈ pre ++ post, BlkTo w w' lh s cu c := by
            intro c hc
            have hb := hbl c (by simp at hc ⊢; rcases hc with hc | hc <;> simp [hc])
            have hc1 : c ∈ o1 := by rw [F.own]; simp at hc ⊢; rcases hc with hc | hc <;> simp [hc]
            cases lh with
            | true => exact hb
            | false =>
              unfold BlkTo
              rw [if_neg (by simp)]
              exact hb.rest fun _ e => by rw [(F.here rfl).1] at e; injection e with e; subst e; exact hn1 hc1
          obtain ⟨s1, s2, k1, k2, k3⟩ := F.stab w' cu hcu hsub p' v ha hp hip
          have hb0 := hbl b0 (by simp)
          refine ⟨s1, s2, by simp only [spot, hdrBlk, hblk, Option.bind_some]; exact k1, ?_, k3⟩
          cases lh with
          | false =>
            unfold BlkTo at hb0
            rw [if_pos ⟨rfl, (F.here rfl).1⟩] at hb0
            obtain ⟨es1, es', ⟨e1, hb1⟩, ⟨e2, hb2⟩, he⟩ := hb0
            rw [hblk] at hb1
            injection hb1 with hb1
            injection hb1 with hb1
            subst hb1
            simp only [Bool.false_eq_true, if_false, Nat.sub_zero] at k2
            simp only [spot, hdrBlk, hb2, Option.bind_some]
            rw [he]; exact k2
          | true =>
            obtain ⟨c, es1, f1, f2, _⟩ := F.there rfl
            have := hb0.rest fun _ e => by rw [f1] at e; injection e with e; subst e; exact hn1 (by rw [F.own]; simp [f2])
            simp only [spot, hdrBlk, this, hblk, Option.bind_some]
            simpa using k2
    | «at» i =>
      cases t <;> simp only [Ty.get, reduceCtorEq] at hg
      · rename_i n t
        obtain ⟨css, ows, rfl, rfl, hlen, ha⟩ := hr
        obtain ⟨⟨hi1, hi2⟩, hi3⟩ := hi
        obtain ⟨a1, a, a2, b1, xb, b2, c1, c, c2, rfl, rfl, rfl, h1, h2, h3, h4, h5, h6⟩ := All3.split (i := i.toNat) ha (by rw [hlen]; omega)
        have hw1 : ∀ c ∈ a1, c.length = t.width := fun c hc => by obtain ⟨_, _, hh⟩ := All3.mem_l h4 c hc; exact hh.len
        have hwa : a.length = t.width := h5.len
        obtain ⟨g1, g2, g3⟩ := seg_at (a2 := a2) hw1 hwa h1
        rw [rd_of_split (α := t.den) h2] at hg hi3
        have hnf : (c1.flatten ++ c ++ c2.flatten).Nodup := by simpa using hn
        have hnc : c.Nodup := (List.nodup_append.1 (List.nodup_append.1 hnf).1).2.1
        obtain ⟨s, ou, pre, post, lh, F⟩ := ih t a xb c u y h b (o + i.toNat * t.width) h5 hnc hg hi3
        refine ⟨s, ou, c1.flatten ++ pre, post ++ c2.flatten, lh, ⟨by simp only [spot]; rw [g1]; exact F.spot, F.rep, by rw [F.own]; simp, F.hop, fun e => ?_, fun e => ?_, ?_, ?_⟩⟩
        · obtain ⟨f1, f2, f3, f4⟩ := F.here e
          refine ⟨f1, by omega, ?_, ?_⟩
          · rw [g2, f3, List.append_assoc, List.drop_append, List.drop_eq_nil_of_le (by omega : a1.flatten.length ≤ s.off - o), List.nil_append, g3,
              show s.off - o - i.toNat * t.width = s.off - (o + i.toNat * t.width) from by omega, List.drop_append_of_le_length (by omega), List.take_append_of_le_length (by simp; omega)]
          · rw [g2]; simp only [List.length_append]; omega
        · obtain ⟨c', es, f1, f2, f3⟩ := F.there e
          exact ⟨c', es, f1, by simp [f2], f3⟩
        · intro w' I' σ' u' y' cu ou' z hw hr' hs hre hle him hbl
          simp only [Ty.set, Option.bind_eq_some_iff] at hs
          rw [rd_of_split (α := t.den) h2] at hs
          obtain ⟨z', hs, z2, hz2, hz⟩ := hs
          obtain ⟨e, hz2⟩ := cast_eq_some hz2
          simp only [Option.some.injEq] at hz
          subst hz
          rw [wr_of_split (α := t.den) h2]
          have hq := F.plug w' I' σ' u' y' cu ou' z' hw hr' hs hre hle (fun c hc => him c (by simp at hc ⊢; rcases hc with hc | hc <;> simp [hc])) (fun c hc => hbl c (by simp at hc ⊢; rcases hc with hc | hc <;> simp [hc]))
          obtain ⟨zt, zx⟩ := z'
          simp only at e hz2 hq
          subst e
          subst hz2
          have keep : ∀ d, (d ∈ c1.flatten ∨ d ∈ c2.flatten) → w'.heap[d]? = w.heap[d]? ∧ ∀ j, I' d j = I d j := by
            intro d hd
            have hdm : d ∈ (c1.flatten ++ pre) ++ (post ++ c2.flatten) := by simp only [List.mem_append]; rcases hd with hd | hd <;> simp [hd]
            refine ⟨?_, fun j => him d hdm j⟩
            have hb := hbl d hdm
            unfold BlkTo at hb
            rw [if_neg] at hb
            · exact hb
            · rintro ⟨e1, e2⟩
              obtain ⟨c', es, f1, f2, _⟩ := F.there e1
              rw [f1] at e2
              injection e2 with e2
              subst e2
              have hc' : c' ∈ c := by rw [F.own]; simp [f2]
              rw [List.append_assoc, List.nodup_append] at hnf
              obtain ⟨m1, m2, m3⟩ := hnf
              rcases hd with hd | hd
              · exact m3 _ hd _ (by simp [hc']) rfl
              · exact (List.nodup_append.1 m2).2.2 _ hc' _ hd rfl
          have k1 := h4.mono (R' := TRep w' I' σ' zt) fun aa bb cc hcc _ hh => TRep.frame hle hh (fun d hd => keep d (.inl (List.mem_flatten.2 ⟨cc, hcc, hd⟩))) hre
          have k2 := h6.mono (R' := TRep w' I' σ' zt) fun aa bb cc hcc _ hh => TRep.frame hle hh (fun d hd => keep d (.inr (List.mem_flatten.2 ⟨cc, hcc, hd⟩))) hre
          refine ⟨a1 ++ (if lh then a else splice a (s.off - (o + i.toNat * zt.width)) cu) :: a2, c1 ++ (pre ++ ou' ++ post) :: c2, ?_, by simp, by simpa using hlen, All3.app k1 ⟨hq, k2⟩⟩
          cases lh with
          | true => simp
          | false =>
            obtain ⟨f1, f2, f3, f4⟩ := F.here rfl
            simp only [Bool.false_eq_true, if_false]
            rw [g2, List.append_assoc, splice_r (by omega), g3, splice_l (by rw [hr'.len, hw]; omega), show s.off - o - i.toNat * zt.width = s.off - (o + i.toNat * zt.width) from by omega]
            simp
        · intro w' cu hcu hbl p' v ha' hp hip
          cases p' with
          | nil =>
            simp only [Ty.get, Option.some.injEq] at hp; subst hp
            exact ⟨_, _, spot_nil .., spot_nil .., rfl, rfl, fun e => by simp [Ty.handle] at e⟩
          | cons s' p' =>
            cases s' <;> simp only [Ty.get, reduceCtorEq] at hp
            rename_i j
            obtain ⟨⟨hj1, hj2⟩, hip⟩ := hip
            obtain ⟨csn, hcs, hcl⟩ : ∃ an, (if lh then (a1 ++ a :: a2).flatten else splice (a1 ++ a :: a2).flatten (s.off - o) cu) = (a1 ++ an :: a2).flatten ∧ an = (if lh then a else splice a (s.off - (o + i.toNat * t.width)) cu) := by
              refine ⟨_, ?_, rfl⟩
              cases lh with
              | true => simp
              | false =>
                obtain ⟨f1, f2, f3, f4⟩ := F.here rfl
                simp only [Bool.false_eq_true, if_false]
                rw [g2, List.append_assoc, splice_r (by omega), g3, splice_l (by omega), show s.off - o - i.toNat * t.width = s.off - (o + i.toNat * t.width) from by omega]
                simp
            have hcsl : csn.length = t.width := by
              rw [hcl]
              cases lh with
              | true => simpa using hwa
              | false =>
                obtain ⟨f1, f2, f3, f4⟩ := F.here rfl
                simp only [Bool.false_eq_true, if_false]; rw [splice_len (by omega), hwa]
            rw [hcs]
            by_cases hij : j.toNat = i.toNat
            · rw [show rd (α := t.den) (b1 ++ xb :: b2) j = xb from rd_of_split (by omega)] at hp hip
              obtain ⟨s1, s2, k1, k2, k3⟩ := F.stab w' cu hcu (fun c hc => hbl c (by simp at hc ⊢; rcases hc with hc | hc <;> simp [hc])) p' v ha' hp hip
              refine ⟨s1, s2, by simp only [spot]; rw [hij, g1]; exact k1, ?_, k3⟩
              simp only [spot]; rw [hij, (seg_at (a2 := a2) hw1 hcsl h1).1, hcl]; exact k2
            · obtain ⟨d1, d, d2, m1, xm, m2, n1, nc, n2, e1, e2, e3, e4, e5, e6, _, e7, _⟩ := All3.split (i := j.toNat) ha (by rw [hlen]; omega)
              have hwd1 : ∀ c ∈ d1, c.length = t.width := fun c hc => by obtain ⟨_, _, hh⟩ := All3.mem_l ha c (by rw [e1]; simp [hc]); exact hh.len
              have gd := (seg_at (a2 := d2) hwd1 e7.len e4).1
              rw [← e1] at gd
              rw [e2, rd_of_split (α := t.den) e5] at hp hip
              have hncj : nc.Nodup := by
                have : (n1.flatten ++ nc ++ n2.flatten).Nodup := by have := hn; rw [e3] at this; simpa using this
                exact (List.nodup_append.1 (List.nodup_append.1 this).1).2.1
              obtain ⟨s1, _, _, _, _, F'⟩ := focus0 p' t d xm nc v.t v.x h b (o + j.toNat * t.width) e7 hncj hp hip
              have gn : ((a1 ++ csn :: a2).flatten.drop (j.toNat * t.width)).take t.width = d := by
                obtain ⟨z1, z2, z3, z4, z5⟩ := swap_at (i := i.toNat) (j := j.toNat) h1 e4 e1 hij csn
                have hz1 : ∀ c ∈ z1, c.length = t.width := fun c hc => by
                  rcases z5 c hc with e | e
                  · rw [e]; exact hcsl
                  · exact hwd1 c e
                have := (seg_at (a2 := z2) hz1 e7.len z4).1
                rw [z3]; exact this
              refine ⟨s1, s1, by simp only [spot]; rw [gd]; exact F', ?_, rfl, rfl, fun _ => rfl⟩
              simp only [spot]; rw [gn]
              rw [spot_frame p' h b _ e7 (fun dd hd => ?_) hp hip]
              · exact F'
              · have hdm := not_mem_other hn e3 h3 e6 hij dd hd
                refine (hbl dd ?_).rest fun e1' e2' => ?_
                · have : dd ∈ c1.flatten ∨ dd ∈ c2.flatten := hdm.1
                  simp only [List.mem_append]; rcases this with hd' | hd' <;> simp [hd']
                · obtain ⟨c', es, f1, f2, _⟩ := F.there e1'
                  rw [f1] at e2'; injection e2' with e2'; subst e2'
                  exact hdm.2 (by rw [F.own]; simp [f2])
      · rename_i sl t
        obtain ⟨ad, cap, rfl, hcap, hmax, hr⟩ := hr
        obtain ⟨⟨hi1, hi2⟩, hi3⟩ := hi
        rcases hr with ⟨_, rfl, _⟩ | ⟨b0, es, css, ows, rfl, ⟨eid, hblk⟩, hes, hcs, rfl, ha, him0, hsl⟩
        · simp at hi2; omega
        obtain ⟨a1, a, a2, b1, xb, b2, c1, c, c2, rfl, rfl, rfl, h1, h2, h3, h4, h5, h6⟩ := All3.split (i := i.toNat) ha (by omega)
        have hw1 : ∀ c ∈ a1, c.length = t.width := fun c hc => by obtain ⟨_, _, hh⟩ := All3.mem_l h4 c hc; exact hh.len
        have hwa : a.length = t.width := h5.len
        obtain ⟨g1, g2, g3⟩ := seg_at (a2 := a2) hw1 hwa h1
        rw [rd_of_split (α := t.den) h2] at hg hi3
        obtain ⟨hn1, hn2⟩ := List.nodup_cons.1 hn
        have hnf : (c1.flatten ++ c ++ c2.flatten).Nodup := by simpa using hn2
        have hnc : c.Nodup := (List.nodup_append.1 (List.nodup_append.1 hnf).1).2.1
        generalize hL : (b1 ++ xb :: b2).length = L at *
        have hle0 : L * t.width ≤ es.size := by rw [hes]; exact Nat.mul_le_mul_right _ hcap
        have hseg : (es.toList.drop (i.toNat * t.width)).take t.width = a := by
          rw [← g1, hcs, List.drop_take, List.take_take, Nat.min_eq_left]
          have : (i.toNat + 1) * t.width ≤ L * t.width := Nat.mul_le_mul_right _ (by omega)
          rw [Nat.add_mul, Nat.one_mul] at this
          omega
        have hin : i.toNat * t.width + t.width ≤ L * t.width := by
          have : (i.toNat + 1) * t.width ≤ L * t.width := Nat.mul_le_mul_right _ (by omega)
          rw [Nat.add_mul, Nat.one_mul] at this
          exact this
        obtain ⟨s, ou, pre, post, lh, F⟩ := ih t a xb c u y true (some b0) (i.toNat * t.width) h5 hnc hg hi3
        have hsp : spot w (.vec sl t) [.slice (some ⟨b0, 0, none⟩) L cap] h b o (.at i :: p) = some s := by
          simp only [spot, hdrBlk, hblk, Option.bind_some]; rw [hseg]; exact F.spot
        refine ⟨s, ou, b0 :: c1.flatten ++ pre, post ++ c2.flatten, true, ⟨hsp, F.rep, by rw [F.own]; simp, by have := F.hop; simpa using this, by simp, fun _ => ?_, ?_, ?_⟩⟩
        · cases lh with
          | true => obtain ⟨c', es', f1, f2, f3⟩ := F.there rfl; exact ⟨c', es', f1, by simp [f2], f3⟩
          | false =>
            obtain ⟨f1, f2, f3, f4⟩ := F.here rfl
            refine ⟨b0, es, f1, by simp, ⟨eid, hblk⟩, ?_, by omega⟩
            rw [f3, ← hseg, List.drop_take, List.drop_drop, List.take_take, Nat.min_eq_left (by omega), show i.toNat * t.width + (s.off - i.toNat * t.width) = s.off from by omega]
        · intro w' I' σ' u' y' cu ou' z hw hr' hs hre hle him hbl
          simp only [Ty.set] at hs
          cases sl with
          | true => simp at hs
          | false =>
          simp only [Bool.false_eq_true, if_false, Option.bind_eq_some_iff] at hs
          rw [rd_of_split (α := t.den) h2] at hs
          obtain ⟨z', hs, z2, hz2, hz⟩ := hs
          obtain ⟨e, hz2⟩ := cast_eq_some hz2
          simp only [Option.some.injEq] at hz
          subst hz
          rw [wr_of_split (α := t.den) h2]
          simp only [if_true]
          have hsub : ∀ d ∈ pre ++ post, BlkTo w w' lh s cu d := by
            intro d hd
            have hb := hbl d (by simp at hd ⊢; rcases hd with hd | hd <;> simp [hd])
            have hd1 : d ∈ c := by rw [F.own]; simp at hd ⊢; rcases hd with hd | hd <;> simp [hd]
            cases lh with
            | true => exact hb
            | false =>
              have hs0 := (F.here rfl).1
              unfold BlkTo at hb ⊢
              rw [if_neg (by simp)]
              rw [if_neg] at hb
              · exact hb
              · rintro ⟨_, e⟩
                rw [hs0] at e; injection e with e; subst e
                exact hn1 (by simp [hd1])
          have hq := F.plug w' I' σ' u' y' cu ou' z' hw hr' hs hre hle (fun c hc => him c (by simp at hc ⊢; rcases hc with hc | hc <;> simp [hc])) hsub
          obtain ⟨zt, zx⟩ := z'
          simp only at e hz2 hq
          subst e
          subst hz2
          have keep : ∀ d, (d ∈ c1.flatten ∨ d ∈ c2.flatten) → w'.heap[d]? = w.heap[d]? ∧ ∀ j, I' d j = I d j := by
            intro d hd
            have hdm : d ∈ (b0 :: c1.flatten ++ pre) ++ (post ++ c2.flatten) := by simp only [List.mem_append, List.mem_cons]; rcases hd with hd | hd <;> simp [hd]
            refine ⟨?_, fun j => him d hdm j⟩
            have hb := hbl d hdm
            unfold BlkTo at hb
            rw [if_neg] at hb
            · exact hb
            · rintro ⟨e1, e2⟩
              cases lh with
              | false =>
                rw [(F.here rfl).1] at e2; injection e2 with e2; subst e2
                exact hn1 (by simp at hd ⊢; rcases hd with hd | hd <;> simp [hd])
              | true =>
                obtain ⟨c', es', f1, f2, _⟩ := F.there rfl
                rw [f1] at e2
                injection e2 with e2
                subst e2
                have hc' : c' ∈ c := by rw [F.own]; simp [f2]
                rw [List.append_assoc, List.nodup_append] at hnf
                obtain ⟨m1, m2, m3⟩ := hnf
                rcases hd with hd | hd
                · exact m3 _ hd _ (by simp [hc']) rfl
                · exact (List.nodup_append.1 m2).2.2 _ hc' _ hd rfl
          have k1 := h4.mono (R' := TRep w' I' σ' zt) fun aa bb cc hcc _ hh => TRep.frame hle hh (fun d hd => keep d (.inl (List.mem_flatten.2 ⟨cc, hcc, hd⟩))) hre
          have k2 := h6.mono (R' := TRep w' I' σ' zt) fun aa bb cc hcc _ hh => TRep.frame hle hh (fun d hd => keep d (.inr (List.mem_flatten.2 ⟨cc, hcc, hd⟩))) hre
          have hL' : (b1 ++ zx :: b2).length = L := by rw [← hL]; simp
          have hb0 := hbl b0 (by simp)
          refine ⟨_, cap, by rw [hL'], by rw [hL']; exact hcap, hmax, .inr ?_⟩
          rw [hL']
          cases lh with
          | true =>
            obtain ⟨c', es1, f1, f2, _⟩ := F.there rfl
            unfold BlkTo at hb0
            rw [if_neg] at hb0
            · simp only [if_true] at hq
              exact ⟨b0, es, a1 ++ a :: a2, c1 ++ (pre ++ ou' ++ post) :: c2, rfl, ⟨eid, by rw [hb0, hblk]⟩, hes, hcs, by simp, All3.app k1 ⟨hq, k2⟩,
                fun j v hv => him0 j v (by rw [← him b0 (by simp)]; exact hv), fun h => by simp at h⟩
            · rintro ⟨_, e⟩
              rw [f1] at e; injection e with e; subst e
              exact hn1 (by simp; exact .inr (.inl (by rw [F.own]; simp [f2])))
          | false =>
            obtain ⟨f1, f2, f3, f4⟩ := F.here rfl
            unfold BlkTo at hb0
            rw [if_pos ⟨rfl, f1⟩] at hb0
            obtain ⟨es1, es', ⟨e1, hb1⟩, hb2, he⟩ := hb0
            rw [hblk] at hb1
            injection hb1 with hb1
            injection hb1 with hb1
            subst hb1
            simp only [Bool.false_eq_true, if_false] at hq
            have hcl : cu.length = u.width := by rw [hr'.len, hw]
            have hsz : es'.size = es.size := by
              have := congrArg List.length he
              rw [splice_len (by simp; omega)] at this
              simpa using this
            refine ⟨b0, es', a1 ++ (splice a (s.off - i.toNat * zt.width) cu) :: a2, c1 ++ (pre ++ ou' ++ post) :: c2, rfl, hb2, by rw [hsz, hes], ?_, by simp, All3.app k1 ⟨hq, k2⟩,
              fun j v hv => him0 j v (by rw [← him b0 (by simp)]; exact hv), fun h => by simp at h⟩
            have e0 : es.toList = (a1.flatten ++ a ++ a2.flatten) ++ es.toList.drop (L * zt.width) := by
              rw [← g2, hcs, List.take_append_drop]
            have la2 : (a1.flatten ++ a ++ a2.flatten).length = L * zt.width := by
              rw [← g2, hcs]; simp; omega
            rw [he, e0, splice_l (by simp only [List.length_append] at la2 ⊢; omega), List.append_assoc, splice_r (by omega), g3, splice_l (by omega)]
            have : (a1 ++ splice a (s.off - i.toNat * zt.width) cu :: a2).flatten = a1.flatten ++ (splice a (s.off - i.toNat * zt.width) cu ++ a2.flatten) := by simp
            rw [this, List.take_append_of_le_length, List.take_of_length_le]
            · simp only [List.length_append] at la2 ⊢; rw [splice_len (by omega)]; omega
            · simp only [List.length_append] at la2 ⊢; rw [splice_len (by omega)]; omega
        · intro w' cu hcu hbl p' v ha' hp hip
          simp only [if_true]
          cases p' with
          | nil => exact ⟨_, _, spot_nil .., spot_nil .., rfl, rfl, fun _ => rfl⟩
          | cons s' p' =>
            cases s' <;> simp only [Ty.get, reduceCtorEq] at hp
            rename_i j
            obtain ⟨⟨hj1, hj2⟩, hip⟩ := hip
            rw [hL] at hj2
            have hsub : ∀ d ∈ pre ++ post, BlkTo w w' lh s cu d := by
              intro d hd
              have hb := hbl d (by simp at hd ⊢; rcases hd with hd | hd <;> simp [hd])
              have hd1 : d ∈ c := by rw [F.own]; simp at hd ⊢; rcases hd with hd | hd <;> simp [hd]
              cases lh with
              | true => exact hb
              | false =>
                unfold BlkTo
                rw [if_neg (by simp)]
                exact hb.rest fun _ e => by rw [(F.here rfl).1] at e; injection e with e; subst e; exact hn1 (by simp [hd1])
            have la2 : (a1.flatten ++ a ++ a2.flatten).length = L * t.width := by
              rw [← g2, hcs]; simp; omega
            obtain ⟨an, hcl, es', eid', hblk', hes'⟩ : ∃ an, an = (if lh then a else splice a (s.off - i.toNat * t.width) cu) ∧ ∃ es' eid', w'.heap[b0]? = some (.cells es' eid' (0, 0)) ∧
                es'.toList = (a1 ++ an :: a2).flatten ++ es.toList.drop (L * t.width) := by
              refine ⟨_, rfl, ?_⟩
              have e0 : es.toList = (a1.flatten ++ a ++ a2.flatten) ++ es.toList.drop (L * t.width) := by
                rw [← g2, hcs, List.take_append_drop]
              have hb0 := hbl b0 (by simp)
              cases lh with
              | true =>
                obtain ⟨c', es1, f1, f2, _⟩ := F.there rfl
                have := hb0.rest fun _ e => by rw [f1] at e; injection e with e; subst e; exact hn1 (by simp; exact .inr (.inl (by rw [F.own]; simp [f2])))
                exact ⟨es, eid, by rw [this, hblk], by simpa using e0⟩
              | false =>
                obtain ⟨f1, f2, f3, f4⟩ := F.here rfl
                unfold BlkTo at hb0
                rw [if_pos ⟨rfl, f1⟩] at hb0
                obtain ⟨es1, es', ⟨e1, hb1⟩, ⟨e2, hb2⟩, he⟩ := hb0
                rw [hblk] at hb1
                injection hb1 with hb1
                injection hb1 with hb1
                subst hb1
                refine ⟨es', e2, hb2, ?_⟩
                simp only [Bool.false_eq_true, if_false]
                rw [he]
                conv => lhs; rw [e0]
                rw [splice_l (by simp only [List.length_append] at la2 ⊢; omega), List.append_assoc a1.flatten, splice_r (by omega), g3, splice_l (by omega)]
                simp
            have hcsl : an.length = t.width := by
              rw [hcl]
              cases lh with
              | true => simpa using hwa
              | false =>
                obtain ⟨f1, f2, f3, f4⟩ := F.here rfl
                simp only [Bool.false_eq_true, if_false]; rw [splice_len (by omega), hwa]
            have hjn : j.toNat * t.width + t.width ≤ L * t.width := by
              have : (j.toNat + 1) * t.width ≤ L * t.width := Nat.mul_le_mul_right _ (by omega)
              rw [Nat.add_mul, Nat.one_mul] at this
              exact this
            have lan : (a1 ++ an :: a2).flatten.length = L * t.width := by
              have : (a1 ++ an :: a2).flatten = a1.flatten ++ an ++ a2.flatten := by simp
              rw [this]; simp only [List.length_append] at la2 ⊢; omega
            have cut : ∀ m, m + t.width ≤ L * t.width → (es'.toList.drop m).take t.width = ((a1 ++ an :: a2).flatten.drop m).take t.width := by
              intro m hm
              rw [hes', List.drop_append_of_le_length (by omega), List.take_append_of_le_length (by simp only [List.length_drop]; omega)]
            by_cases hij : j.toNat = i.toNat
            · rw [show rd (α := t.den) (b1 ++ xb :: b2) j = xb from rd_of_split (by omega)] at hp hip
              obtain ⟨s1, s2, k1, k2, k3⟩ := F.stab w' cu hcu hsub p' v ha' hp hip
              refine ⟨s1, s2, by simp only [spot, hdrBlk, hblk, Option.bind_some]; rw [hij, hseg]; exact k1, ?_, k3⟩
              simp only [spot, hdrBlk, hblk', Option.bind_some]
              rw [cut _ hjn, hij, (seg_at (a2 := a2) hw1 hcsl h1).1, hcl]; exact k2
            · obtain ⟨d1, d, d2, m1, xm, m2, n1, nc, n2, e1, e2, e3, e4, e5, e6, _, e7, _⟩ := All3.split (i := j.toNat) ha (by omega)
              have hwd1 : ∀ c ∈ d1, c.length = t.width := fun c hc => by obtain ⟨_, _, hh⟩ := All3.mem_l ha c (by rw [e1]; simp [hc]); exact hh.len
              have gd := (seg_at (a2 := d2) hwd1 e7.len e4).1
              rw [← e1] at gd
              have gd' : (es.toList.drop (j.toNat * t.width)).take t.width = d := by
                rw [← gd, hcs, List.drop_take, List.take_take, Nat.min_eq_left]
                omega
              rw [e2, rd_of_split (α := t.den) e5] at hp hip
              have hncj : nc.Nodup := by
                have : (n1.flatten ++ nc ++ n2.flatten).Nodup := by have := hn2; rw [e3] at this; simpa using this
                exact (List.nodup_append.1 (List.nodup_append.1 this).1).2.1
              obtain ⟨s1, _, _, _, _, F'⟩ := focus0 p' t d xm nc v.t v.x true (some b0) (j.toNat * t.width) e7 hncj hp hip
              have gn : ((a1 ++ an :: a2).flatten.drop (j.toNat * t.width)).take t.width = d := by
                obtain ⟨z1, z2, z3, z4, z5⟩ := swap_at (i := i.toNat) (j := j.toNat) h1 e4 e1 hij an
                have hz1 : ∀ c ∈ z1, c.length = t.width := fun c hc => by
                  rcases z5 c hc with e | e
                  · rw [e]; exact hcsl
                  · exact hwd1 c e
                have := (seg_at (a2 := z2) hz1 e7.len z4).1
                rw [z3]; exact this
              refine ⟨s1, s1, by simp only [spot, hdrBlk, hblk, Option.bind_some]; rw [gd']; exact F', ?_, rfl, rfl, fun _ => rfl⟩
              simp only [spot, hdrBlk, hblk', Option.bind_some]; rw [cut _ hjn, gn]
              rw [spot_frame p' true (some b0) _ e7 (fun dd hd => ?_) hp hip]
              · exact F'
              · have hdm := not_mem_other hn2 e3 h3 e6 hij dd hd
                refine (hbl dd ?_).rest fun e1' e2' => ?_
                · have : dd ∈ c1.flatten ∨ dd ∈ c2.flatten := hdm.1
                  simp only [List.mem_append, List.mem_cons]; rcases this with hd' | hd' <;> simp [hd']
                · cases lh with
                  | false =>
                    rw [(F.here rfl).1] at e2'; injection e2' with e2'; subst e2'
                    exact hn1 (by rw [e3]; simp [hd])
                  | true =>
                    obtain ⟨c', es, f1, f2, _⟩ := F.there rfl
                    rw [f1] at e2'; injection e2' with e2'; subst e2'
                    exact hdm.2 (by rw [F.own]; simp [f2])

end Go.Ev

namespace Go.Ev

theorem rd_wr_same {α : Type} [Inhabited α] {l : List α} {i j : Int} {x : α} (h : i.toNat = j.toNat) (hl : i.toNat < l.length) : rd (wr l i x) j = x := by
  rw [rd_eq, wr_eq, List.getD_eq_getElem?_getD, ← h]; simp [hl]
theorem rd_wr_out {α : Type} [Inhabited α] {l : List α} {i j : Int} {x : α} (hl : ¬ i.toNat < l.length) : rd (wr l i x) j = rd l j := by
  rw [rd_eq, rd_eq, wr_eq, List.set_eq_of_length_le (by omega)]
theorem rd_wr_ne {α : Type} [Inhabited α] {l : List α} {i j : Int} {x : α} (h : i.toNat ≠ j.toNat) : rd (wr l i x) j = rd l j := by
  rw [rd_eq, rd_eq, wr_eq, List.getD_eq_getElem?_getD, List.getD_eq_getElem?_getD, List.getElem?_set_ne h]
theorem wr_len {α : Type} {l : List α} {i : Int} {x : α} : (wr l i x).length = l.length := by rw [wr_eq]; simp

theorem set_width : ∀ (q : Path) (t : Ty) (x : t.den) (u' : TV) (z : TV) (u : TV), t.get x q = some u → u'.t.width = u.t.width → t.set x q u' = some z → z.t.width = t.width := by
  intro q
  induction q with
  | nil =>
    intro t x u' z u hg hw hs
    simp only [Ty.get, Ty.set, Option.some.injEq] at hg hs
    subst hs; subst hg; exact hw
  | cons s q ih =>
    intro t x u' z u hg hw hs
    cases s <;> cases t <;> simp only [Ty.get, reduceCtorEq] at hg <;> simp only [Ty.set, Option.bind_eq_some_iff, Option.some.injEq] at hs
    case o.one => obtain ⟨z', h1, rfl⟩ := hs; simp only [Ty.width]; exact ih _ _ _ _ _ hg hw h1
    case l.pair => obtain ⟨z', h1, rfl⟩ := hs; simp only [Ty.width]; rw [ih _ _ _ _ _ hg hw h1]
    case r.pair => obtain ⟨z', h1, rfl⟩ := hs; simp only [Ty.width]; rw [ih _ _ _ _ _ hg hw h1]
    case «at».arr => obtain ⟨z', h1, z2, _, rfl⟩ := hs; rfl
    case «at».vec =>
      split at hs
      · simp at hs
      · simp only [Option.bind_eq_some_iff, Option.some.injEq] at hs
        obtain ⟨z', h1, z2, _, rfl⟩ := hs; rfl
    case d.box => obtain ⟨z', h1, rfl⟩ := hs; rfl

theorem inb_nil (t : Ty) (x : t.den) : Inb t x [] := by cases t <;> trivial

/-- A place that is not below the one that was set is known to the same spot. -/
theorem stabT : ∀ (q : Path) (t : Ty) (x : t.den) (u' z u : TV), t.get x q = some u → u'.t.width = u.t.width → t.set x q u' = some z →
    ∀ (p : Path) (v' : TV), Path.above q p = false → z.t.get z.x p = some v' →
      (∃ v, t.get x p = some v ∧ ((Path.sim q p = false ∨ (u'.t.handle = true → u.t.handle = true ∧ u.t.hk = u'.t.hk)) → v'.t.handle = true → v.t.handle = true ∧ v.t.hk = v'.t.hk)) ∧ (Inb t x p → Inb z.t z.x p) ∧ ∀ w cs h b o, spot w z.t cs h b o p = spot w t cs h b o p := by
  intro q
  induction q with
  | nil =>
    intro t x u' z u hg hw hs p v' ha hp
    cases p with
    | nil =>
      simp only [Ty.get, Ty.set, Option.some.injEq] at hg hs hp
      subst hg; subst hs; subst hp
      exact ⟨⟨⟨t, x⟩, by simp [Ty.get], fun h => by simpa [Path.sim] using h⟩, fun _ => inb_nil _ _, fun w cs h b o => by rw [spot_nil, spot_nil]⟩
    | cons s p => simp [Path.above] at ha
  | cons s q ih =>
    intro t x u' z u hg hw hs p v' ha hp
    cases p with
    | nil =>
      simp only [Ty.get, Option.some.injEq] at hp
      subst hp
      refine ⟨⟨⟨t, x⟩, by simp [Ty.get], fun _ h => ?_⟩, fun _ => inb_nil _ _, fun w cs h b o => by rw [spot_nil, spot_nil]⟩
      cases s <;> cases t <;> simp only [Ty.get, reduceCtorEq] at hg <;> simp only [Ty.set, Option.bind_eq_some_iff, Option.some.injEq] at hs
      case o.one => obtain ⟨z', h1, rfl⟩ := hs; simp [Ty.handle] at h
      case l.pair => obtain ⟨z', h1, rfl⟩ := hs; simp [Ty.handle] at h
      case r.pair => obtain ⟨z', h1, rfl⟩ := hs; simp [Ty.handle] at h
      case «at».arr => obtain ⟨z', h1, z2, _, rfl⟩ := hs; simp [Ty.handle] at h
      case «at».vec =>
        split at hs
        · simp at hs
        · simp only [Option.bind_eq_some_iff, Option.some.injEq] at hs
          obtain ⟨z', h1, z2, _, rfl⟩ := hs; exact ⟨rfl, rfl⟩
      case d.box => obtain ⟨z', h1, rfl⟩ := hs; exact ⟨rfl, rfl⟩
    | cons s' p =>
      cases s <;> cases t <;> simp only [Ty.get, reduceCtorEq] at hg <;> simp only [Ty.set, Option.bind_eq_some_iff, Option.some.injEq] at hs
      case o.one =>
        obtain ⟨z', h1, rfl⟩ := hs
        cases s' <;> simp only [Ty.get, reduceCtorEq] at hp
        obtain ⟨h2, h3, h4⟩ := ih _ _ _ _ _ hg hw h1 p v' ha hp
        exact ⟨by simpa [Ty.get, Path.sim] using h2, h3, fun w cs h b o => by simp only [spot]; exact h4 ..⟩
      case l.pair =>
        obtain ⟨z', h1, rfl⟩ := hs
        have hwd := set_width _ _ _ _ _ _ hg hw h1
        cases s' <;> simp only [Ty.get, reduceCtorEq] at hp
        · obtain ⟨h2, h3, h4⟩ := ih _ _ _ _ _ hg hw h1 p v' ha hp
          exact ⟨by simpa [Ty.get, Path.sim] using h2, h3, fun w cs h b o => by simp only [spot, hwd]; exact h4 ..⟩
        · exact ⟨⟨_, by simpa [Ty.get] using hp, fun _ h => ⟨h, rfl⟩⟩, fun hi => hi, fun w cs h b o => by simp only [spot, hwd]⟩
      case r.pair =>
        obtain ⟨z', h1, rfl⟩ := hs
        cases s' <;> simp only [Ty.get, reduceCtorEq] at hp
        · exact ⟨⟨_, by simpa [Ty.get] using hp, fun _ h => ⟨h, rfl⟩⟩, fun hi => hi, fun w cs h b o => by simp only [spot]⟩
        · obtain ⟨h2, h3, h4⟩ := ih _ _ _ _ _ hg hw h1 p v' ha hp
          exact ⟨by simpa [Ty.get, Path.sim] using h2, h3, fun w cs h b o => by simp only [spot]; exact h4 ..⟩
      case «at».arr i n t =>
        obtain ⟨z', h1, z2, hc, rfl⟩ := hs
        obtain ⟨e, hz2⟩ := cast_eq_some hc
        obtain ⟨zt, zx⟩ := z'
        simp only at e; subst e; simp only at hz2; subst hz2
        cases s' <;> simp only [Ty.get, reduceCtorEq] at hp
        rename_i j
        by_cases hij : i.toNat = j.toNat
        · by_cases hl : i.toNat < (x : List zt.den).length
          · rw [rd_wr_same (α := zt.den) hij hl] at hp
            have er : rd (α := zt.den) x i = rd (α := zt.den) x j := by rw [rd_eq, rd_eq, hij]
            obtain ⟨h2, h3, h4⟩ := ih _ _ _ _ _ hg hw h1 p v' ha hp
            rw [er] at h2 h3
            refine ⟨by simpa [Ty.get, Path.sim] using h2, fun ⟨hi1, hi2⟩ => ⟨hi1, ?_⟩, fun w cs h b o => by simp only [spot]⟩
            rw [rd_wr_same (α := zt.den) hij hl]; exact h3 hi2
          · rw [rd_wr_out (α := zt.den) hl] at hp
            refine ⟨⟨_, by simpa [Ty.get] using hp, fun _ h => ⟨h, rfl⟩⟩, fun ⟨hi1, hi2⟩ => ⟨hi1, ?_⟩, fun w cs h b o => by simp only [spot]⟩
            rw [rd_wr_out (α := zt.den) hl]; exact hi2
        · rw [rd_wr_ne (α := zt.den) hij] at hp
          refine ⟨⟨_, by simpa [Ty.get] using hp, fun _ h => ⟨h, rfl⟩⟩, fun ⟨hi1, hi2⟩ => ⟨hi1, ?_⟩, fun w cs h b o => by simp only [spot]⟩
          rw [rd_wr_ne (α := zt.den) hij]; exact hi2
      case «at».vec i sl t =>
        split at hs
        · simp at hs
        simp only [Option.bind_eq_some_iff, Option.some.injEq] at hs
        obtain ⟨z', h1, z2, hc, rfl⟩ := hs
        obtain ⟨e, hz2⟩ := cast_eq_some hc
        obtain ⟨zt, zx⟩ := z'
        simp only at e; subst e; simp only at hz2; subst hz2
        cases s' <;> simp only [Ty.get, reduceCtorEq] at hp
        rename_i j
        by_cases hij : i.toNat = j.toNat
        · by_cases hl : i.toNat < (x : List zt.den).length
          · rw [rd_wr_same (α := zt.den) hij hl] at hp
            have er : rd (α := zt.den) x i = rd (α := zt.den) x j := by rw [rd_eq, rd_eq, hij]
            obtain ⟨h2, h3, h4⟩ := ih _ _ _ _ _ hg hw h1 p v' ha hp
            rw [er] at h2 h3
            refine ⟨by simpa [Ty.get, Path.sim] using h2, fun ⟨hi1, hi2⟩ => ⟨by rw [wr_len]; exact hi1, ?_⟩, fun w cs h b o => by simp only [spot]⟩
            rw [rd_wr_same (α := zt.den) hij hl]; exact h3 hi2
          · rw [rd_wr_out (α := zt.den) hl] at hp
            refine ⟨⟨_, by simpa [Ty.get] using hp, fun _ h => ⟨h, rfl⟩⟩, fun ⟨hi1, hi2⟩ => ⟨by rw [wr_len]; exact hi1, ?_⟩, fun w cs h b o => by simp only [spot]⟩
            rw [rd_wr_out (α := zt.den) hl]; exact hi2
        · rw [rd_wr_ne (α := zt.den) hij] at hp
          refine ⟨⟨_, by simpa [Ty.get] using hp, fun _ h => ⟨h, rfl⟩⟩, fun ⟨hi1, hi2⟩ => ⟨by rw [wr_len]; exact hi1, ?_⟩, fun w cs h b o => by simp only [spot]⟩
          rw [rd_wr_ne (α := zt.den) hij]; exact hi2
      case d.box =>
        obtain ⟨z', h1, rfl⟩ := hs
        cases s' <;> simp only [Ty.get, reduceCtorEq] at hp
        obtain ⟨h2, h3, h4⟩ := ih _ _ _ _ _ hg hw h1 p v' ha hp
        refine ⟨by simpa [Ty.get, Path.sim] using h2, h3, fun w cs h b o => ?_⟩
        simp only [spot]; cases hdrBlk w cs with
        | none => rfl
        | some e => exact h4 ..


/-! ### What hangs on the type alone -/
theorem get_indep : ∀ (p : Path) (t : Ty) (x x' : t.den) (v : TV), t.get x p = some v → ∃ v', t.get x' p = some v' ∧ v'.t = v.t := by
  intro p
  induction p with
  | nil => intro t x x' v h; simp only [Ty.get, Option.some.injEq] at h; subst h; exact ⟨⟨t, x'⟩, by simp [Ty.get], rfl⟩
  | cons s p ih =>
    intro t x x' v h
    cases s <;> cases t <;> simp only [Ty.get, reduceCtorEq] at h ⊢ <;> exact ih _ _ _ _ h

theorem leaf_none {t : Ty} (h : t.leaf = true) (x : t.den) (s : Stp) (p : Path) : t.get x (s :: p) = none := by
  cases t <;> simp [Ty.leaf] at h <;> cases s <;> simp [Ty.get]

/-- Below a leaf there is nothing. -/
theorem below_leaf : ∀ (q : Path) (t : Ty) (x : t.den) (u z : TV), t.set x q u = some z → u.t.leaf = true → ∀ (p : Path), Path.above q p = true → z.t.get z.x p = none := by
  intro q
  induction q with
  | nil =>
    intro t x u z hs hl p ha
    simp only [Ty.set, Option.some.injEq] at hs
    subst hs
    cases p with
    | nil => simp [Path.above] at ha
    | cons s p => exact leaf_none hl _ _ _
  | cons s q ih =>
    intro t x u z hs hl p ha
    cases p with
    | nil => cases s <;> simp [Path.above] at ha
    | cons s' p =>
      cases s <;> cases t <;> simp only [Ty.set, Option.bind_eq_some_iff, Option.some.injEq, reduceCtorEq] at hs <;> cases s' <;> simp only [Path.above, Bool.false_eq_true] at ha
      case o.one.o => obtain ⟨z', h1, rfl⟩ := hs; simp only [Ty.get]; exact ih _ _ _ _ h1 hl p ha
      case l.pair.l => obtain ⟨z', h1, rfl⟩ := hs; simp only [Ty.get]; exact ih _ _ _ _ h1 hl p ha
      case r.pair.r => obtain ⟨z', h1, rfl⟩ := hs; simp only [Ty.get]; exact ih _ _ _ _ h1 hl p ha
      case d.box.d => obtain ⟨z', h1, rfl⟩ := hs; simp only [Ty.get]; exact ih _ _ _ _ h1 hl p ha
      case «at».arr.at i n t j =>
        obtain ⟨z', h1, z2, hc, rfl⟩ := hs
        obtain ⟨e, hz2⟩ := cast_eq_some hc
        obtain ⟨zt, zx⟩ := z'
        simp only at e; subst e
        simp only [Ty.get]
        have := ih _ _ _ _ h1 hl p ha
        generalize hr : rd (α := zt.den) (wr (α := zt.den) x i z2) j = r
        cases hg : zt.get r p with
        | none => rfl
        | some v => obtain ⟨v', hv, _⟩ := get_indep p zt r zx v hg; rw [this] at hv; simp at hv
      case «at».vec.at i sl t j =>
        split at hs
        · simp at hs
        simp only [Option.bind_eq_some_iff, Option.some.injEq] at hs
        obtain ⟨z', h1, z2, hc, rfl⟩ := hs
        obtain ⟨e, hz2⟩ := cast_eq_some hc
        obtain ⟨zt, zx⟩ := z'
        simp only at e; subst e
        simp only [Ty.get]
        have := ih _ _ _ _ h1 hl p ha
        generalize hr : rd (α := zt.den) (wr (α := zt.den) x i z2) j = r
        cases hg : zt.get r p with
        | none => rfl
        | some v => obtain ⟨v', hv, _⟩ := get_indep p zt r zx v hg; rw [this] at hv; simp at hv

/-- At a place of the same make there is the same type. -/
theorem sim_type : ∀ (q : Path) (t : Ty) (x : t.den) (u z : TV), t.set x q u = some z → ∀ (p : Path) (v : TV), Path.sim q p = true → z.t.get z.x p = some v → v.t = u.t := by
  intro q
  induction q with
  | nil =>
    intro t x u z hs p v ha hp
    simp only [Ty.set, Option.some.injEq] at hs
    subst hs
    cases p with
    | nil => simp only [Ty.get, Option.some.injEq] at hp; subst hp; rfl
    | cons s p => simp [Path.sim] at ha
  | cons s q ih =>
    intro t x u z hs p v ha hp
    cases p with
    | nil => cases s <;> simp [Path.sim] at ha
    | cons s' p =>
      cases s <;> cases t <;> simp only [Ty.set, Option.bind_eq_some_iff, Option.some.injEq, reduceCtorEq] at hs <;> cases s' <;> simp only [Path.sim, Bool.false_eq_true] at ha
      case o.one.o => obtain ⟨z', h1, rfl⟩ := hs; simp only [Ty.get] at hp; exact ih _ _ _ _ h1 p v ha hp
      case l.pair.l => obtain ⟨z', h1, rfl⟩ := hs; simp only [Ty.get] at hp; exact ih _ _ _ _ h1 p v ha hp
      case r.pair.r => obtain ⟨z', h1, rfl⟩ := hs; simp only [Ty.get] at hp; exact ih _ _ _ _ h1 p v ha hp
      case d.box.d => obtain ⟨z', h1, rfl⟩ := hs; simp only [Ty.get] at hp; exact ih _ _ _ _ h1 p v ha hp
      case «at».arr.at i n t j =>
        obtain ⟨z', h1, z2, hc, rfl⟩ := hs
        obtain ⟨e, hz2⟩ := cast_eq_some hc
        obtain ⟨zt, zx⟩ := z'
        simp only at e; subst e
        simp only [Ty.get] at hp
        obtain ⟨v', hv, ht⟩ := get_indep p zt _ zx v hp
        rw [← ht]; exact ih _ _ _ _ h1 p v' ha hv
      case «at».vec.at i sl t j =>
        split at hs
        · simp at hs
        simp only [Option.bind_eq_some_iff, Option.some.injEq] at hs
        obtain ⟨z', h1, z2, hc, rfl⟩ := hs
        obtain ⟨e, hz2⟩ := cast_eq_some hc
        obtain ⟨zt, zx⟩ := z'
        simp only at e; subst e
        simp only [Ty.get] at hp
        obtain ⟨v', hv, ht⟩ := get_indep p zt _ zx v hp
        rw [← ht]; exact ih _ _ _ _ h1 p v' ha hv

end Go.Ev

