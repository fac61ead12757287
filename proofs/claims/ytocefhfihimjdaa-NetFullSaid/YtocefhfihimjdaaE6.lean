/- A way to show what code computes: part 6: no condition. -/
import Derived.Test.YtocefhfihimjdaaE5
import Derived.Laws.BytesString
import Derived.Laws.AppendOwn
set_option linter.unusedVariables false
namespace Go.Ev

section
variable {S : Start} {n n' : Nat} {w : World} {I : Imm} {σ : Nat → Value} {H : Heap} {own : Own} {loose : List Nat}
variable {RR : Type} {P : Program} {r : RR} {x : Sem Next}
variable {C : Handler} {o : Oper} {st : St} {a : Act}

theorem desc_agg {m : Nat} {T : TypeId} {t : Ty} (h : descOk P m T t = true) : isAggT P T = some t.isAgg := by
  cases m with
  | zero => simp [descOk] at h
  | succ m =>
    unfold descOk at h
    unfold isAggT
    split at h
    · rename_i hu; rw [hu]; rfl
    · rename_i hu; rw [hu]; rfl
    · rename_i hu; rw [hu]; rfl
    · rename_i hu; rw [hu]; rfl
    · rename_i t _ _ fs hu
      rw [hu]
      simp only [Bool.and_eq_true] at h
      have h := h.1
      cases hf : fs.toList with
      | nil => rw [hf] at h; cases t <;> simp [descGo] at h; rfl
      | cons f r =>
        rw [hf] at h
        cases r with
        | nil => cases t <;> simp [descGo] at h; rfl
        | cons g r =>
          cases r with
          | nil => cases t <;> simp [descGo] at h; rfl
          | cons g2 r => cases t <;> simp [descGo] at h; rfl
    · simp at h

/-- What equality at a type gives. -/
def EqAt (P : Program) (m : Nat) : Prop := ∀ (D : Nat) (T : TypeId) (t : Ty) (w : World) (I : Imm) (σ : Nat → Value) (cs ds : List Value) (x y : t.den) (X Y : Value), m ≤ D → t.cmp = true → descOk P m T t = true →
  TRep w I σ t cs x [] → TRep w I σ t ds y [] → OfCells t cs X → OfCells t ds Y → (Op.equalIn D T X Y).run P w = .ok (t.eqb x y) w

theorem part_at {T : TypeId} {t : Ty} {m off : Nat} {cs : Array Value} (hd : descOk P m T t = true) (hs : szOk P T t.width = true) (hc : t.cmp = true) (hm : off + t.width ≤ cs.size) :
    ∃ v, (part T cs off).run P w = .ok v w ∧ OfCells t ((cs.toList.drop off).take t.width) v := by
  obtain ⟨v, e1, e2, e3⟩ := run_part (P := P) (w := w) (desc_agg hd) hs hm (fun e => width_one e (by cases t <;> first | rfl | (simp [Ty.cmp] at hc)))
  exact ⟨v, e1, fun e => e2 e, fun e => e3 e⟩

theorem cut_cut {α : Type} (l : List α) (off m k : Nat) : ((l.drop off).take (m + k)).take m = (l.drop off).take m := by
  rw [List.take_take]; congr 1; omega
theorem cut_rest {α : Type} (l : List α) (off m k : Nat) : ((l.drop off).take (m + k)).drop m = (l.drop (off + m)).take k := by
  rw [List.drop_take, List.drop_drop]; congr 1; omega

theorem eqFields_one {D : Nat} {xs ys : Array Value} {f : Field} {fs : List Field} {t : Ty} {m : Nat} (E : EqAt P m) (hD : m ≤ D) (hn : f.name ≠ "_") (hd : descOk P m f.type t = true) (hs : szOk P f.type t.width = true) (hc : t.cmp = true)
    {x y : t.den} (hx : f.offset + t.width ≤ xs.size) (hy : f.offset + t.width ≤ ys.size) (rx : TRep w I σ t ((xs.toList.drop f.offset).take t.width) x []) (ry : TRep w I σ t ((ys.toList.drop f.offset).take t.width) y []) :
    (Op.eqFields D xs ys (f :: fs)).run P w = if t.eqb x y then (Op.eqFields D xs ys fs).run P w else .ok false w := by
  obtain ⟨X, e1, e2⟩ := part_at (w := w) hd hs hc hx
  obtain ⟨Y, e3, e4⟩ := part_at (w := w) hd hs hc hy
  simp only [Op.eqFields, if_pos hn, Sem.run_bind, e1, e3, Result.andThen_ok, E D f.type t w I σ _ _ x y X Y hD hc hd rx ry e2 e4]
  cases t.eqb x y <;> simp

theorem eqFields_ok {D m : Nat} {xs ys : Array Value} (E : EqAt P m) (hD : m ≤ D) : ∀ (fs : List Field) (off : Nat) (t : Ty) (x y : t.den), t.cmp = true → descGo P (descOk P m) fs off t = true → off + t.width ≤ xs.size → off + t.width ≤ ys.size →
    TRep w I σ t ((xs.toList.drop off).take t.width) x [] → TRep w I σ t ((ys.toList.drop off).take t.width) y [] → (Op.eqFields D xs ys fs).run P w = .ok (t.eqb x y) w
  | [], off, t, x, y, hc, hd, h1, h2, rx, ry => by
    cases t <;> simp [descGo] at hd
    simp [Op.eqFields, Ty.eqb]
  | [f], off, t, x, y, hc, hd, h1, h2, rx, ry => by
    cases t <;> simp [descGo] at hd
    rename_i t
    obtain ⟨⟨⟨rfl, hn⟩, hd⟩, hs⟩ := hd
    rw [eqFields_one (t := t) E hD hn hd hs hc h1 h2 rx ry]
    simp only [Ty.eqb]
    cases t.eqb x y <;> simp [Op.eqFields]
  | [f, g], off, t, x, y, hc, hd, h1, h2, rx, ry => by
    cases t <;> simp [descGo] at hd
    rename_i t u
    obtain ⟨⟨⟨⟨⟨⟨⟨rfl, hn⟩, hd⟩, hs⟩, ho⟩, hn2⟩, hd2⟩, hs2⟩ := hd
    simp only [Ty.cmp, Bool.and_eq_true] at hc
    simp only [Ty.width] at h1 h2
    obtain ⟨c1, c2, o1, o2, hcs, hoo, r1, r2⟩ := rx
    obtain ⟨d1, d2, p1, p2, hds, hpp, s1, s2⟩ := ry
    have k1 := List.append_eq_nil_iff.1 hoo.symm
    have k2 := List.append_eq_nil_iff.1 hpp.symm
    rw [k1.1] at r1; rw [k1.2] at r2; rw [k2.1] at s1; rw [k2.2] at s2
    simp only [Ty.width] at hcs hds
    have a1 : c1 = (xs.toList.drop f.offset).take t.width := by rw [← cut_cut _ _ _ u.width, hcs, List.take_left' r1.len]
    have a2 : c2 = (xs.toList.drop (f.offset + t.width)).take u.width := by rw [← cut_rest, hcs, List.drop_left' r1.len]
    have b1 : d1 = (ys.toList.drop f.offset).take t.width := by rw [← cut_cut _ _ _ u.width, hds, List.take_left' s1.len]
    have b2 : d2 = (ys.toList.drop (f.offset + t.width)).take u.width := by rw [← cut_rest, hds, List.drop_left' s1.len]
    subst a1 a2 b1 b2
    rw [eqFields_one (t := t) E hD hn hd hs hc.1 (by omega) (by omega) r1 s1]
    rw [eqFields_one (t := u) E hD hn2 hd2 hs2 hc.2 (by omega) (by omega) (by rw [ho]; exact r2) (by rw [ho]; exact s2)]
    simp only [Ty.eqb, bAnd_eq]
    cases t.eqb x.1 y.1 <;> cases u.eqb x.2 y.2 <;> simp [Op.eqFields]
  | f :: g :: g2 :: fs, off, t, x, y, hc, hd, h1, h2, rx, ry => by
    cases t <;> simp only [descGo, Bool.false_eq_true] at hd
    rename_i t u
    simp only [Bool.and_eq_true, beq_iff_eq, bne_iff_ne] at hd
    obtain ⟨⟨⟨⟨rfl, hn⟩, hd⟩, hs⟩, hd2⟩ := hd
    simp only [Ty.cmp, Bool.and_eq_true] at hc
    simp only [Ty.width] at h1 h2
    obtain ⟨c1, c2, o1, o2, hcs, hoo, r1, r2⟩ := rx
    obtain ⟨d1, d2, p1, p2, hds, hpp, s1, s2⟩ := ry
    have k1 := List.append_eq_nil_iff.1 hoo.symm
    have k2 := List.append_eq_nil_iff.1 hpp.symm
    rw [k1.1] at r1; rw [k1.2] at r2; rw [k2.1] at s1; rw [k2.2] at s2
    simp only [Ty.width] at hcs hds
    have a1 : c1 = (xs.toList.drop f.offset).take t.width := by rw [← cut_cut _ _ _ u.width, hcs, List.take_left' r1.len]
    have a2 : c2 = (xs.toList.drop (f.offset + t.width)).take u.width := by rw [← cut_rest, hcs, List.drop_left' r1.len]
    have b1 : d1 = (ys.toList.drop f.offset).take t.width := by rw [← cut_cut _ _ _ u.width, hds, List.take_left' s1.len]
    have b2 : d2 = (ys.toList.drop (f.offset + t.width)).take u.width := by rw [← cut_rest, hds, List.drop_left' s1.len]
    subst a1 a2 b1 b2
    rw [eqFields_one (t := t) E hD hn hd hs hc.1 (by omega) (by omega) r1 s1]
    have ih := eqFields_ok E hD (g :: g2 :: fs) (f.offset + t.width) u x.2 y.2 hc.2 hd2 (by omega) (by omega) r2 s2
    rw [ih]
    simp only [Ty.eqb, bAnd_eq]
    cases t.eqb x.1 y.1 <;> simp

theorem eq_at : ∀ m, EqAt P m
  | 0 => fun D T t w I σ cs ds x y X Y _ _ h => by simp [descOk] at h
  | m + 1 => fun D T t w I σ cs ds x y X Y hD hc h rx ry hX hY => by
    obtain ⟨D, rfl⟩ : ∃ D', D = D' + 1 := ⟨D - 1, by omega⟩
    have hagg := desc_agg h
    unfold descOk at h
    split at h
    · rename_i k k' hu
      obtain ⟨_, rfl, _⟩ := rx
      obtain ⟨_, rfl, _⟩ := ry
      have e1 := hX.2 rfl
      have e2 := hY.2 rfl
      simp only [List.cons.injEq, and_true] at e1 e2
      subst e1 e2
      simp [Op.equalIn, run_und hu, Ty.eqb, bEq_eq]
      rfl
    · rename_i hu
      obtain ⟨_, rfl⟩ := rx
      obtain ⟨_, rfl⟩ := ry
      have e1 := hX.2 rfl
      have e2 := hY.2 rfl
      simp only [List.cons.injEq, and_true] at e1 e2
      subst e1 e2
      simp [Op.equalIn, run_und hu, Ty.eqb, bIff_eq]
    · rename_i hu
      obtain ⟨_, s1, rfl, rfl, _⟩ := rx
      obtain ⟨_, s2, rfl, rfl, _⟩ := ry
      have e1 := hX.2 rfl
      have e2 := hY.2 rfl
      simp only [List.cons.injEq, and_true] at e1 e2
      subst e1 e2
      simp [Op.equalIn, run_und hu, Ty.eqb, sEq_eq, beq_toListBytes, bytes_beq]
    · simp [Ty.cmp] at hc
    · rename_i t _ _ fs hu
      simp only [Bool.and_eq_true, Bool.not_eq_true'] at h
      have hA : t.isAgg = true := by
        rw [isAggT, hu] at hagg
        simpa using hagg.symm
      have e1 := hX.1 hA
      have e2 := hY.1 hA
      subst e1 e2
      have hfo : P.fieldsOf T = fs := by simp [Program.fieldsOf, hu]
      rw [run_equalIn_struct w D T _ _ (by rw [hfo]; exact hu) h.2, hfo]
      have l1 := rx.len
      have l2 := ry.len
      refine eqFields_ok (I := I) (σ := σ) (eq_at m) (by omega) fs.toList 0 t x y hc h.1 (by simp; omega) (by simp; omega) ?_ ?_
      · rw [List.drop_zero, List.take_of_length_le (by simp; omega)]; exact rx
      · rw [List.drop_zero, List.take_of_length_le (by simp; omega)]; exact ry
    · simp at h

variable {k : AV → Option RR}

theorem guard_agg {op : BinOp} {T : TypeId} {x y : Operand} {p q : Array Value} (h : P.eqGuardType P.depth T = false) : (eqGuard op T x y (.agg p) (.agg q)).run P w = .ok () w := by
  cases op <;> simp [eqGuard, h]

theorem dat_cells {t : Ty} {x : t.den} {v : Value} (h : AvV w I σ H (.dat t x) v) (hc : t.cmp = true) : ∃ cs, TRep w I σ t cs x [] ∧ OfCells t cs v ∧ v.cells.toList = cs := by
  obtain ⟨⟨hp, hr⟩, h2, h3⟩ := h.2 rfl
  refine ⟨_, hr, ⟨fun e => ?_, fun e => ?_⟩, rfl⟩
  · obtain ⟨c, rfl⟩ := h2 (by simp [AV.agg, e])
    rfl
  · rw [cells_one (h3 (by simp [AV.agg, e]))]

theorem cmp_guard {op : BinOp} {T : TypeId} {x y : Operand} {t : Ty} {p q : t.den} {u v : Value} (hu : AvV w I σ H (.dat t p) u) (hv : AvV w I σ H (.dat t q) v) (hc : t.cmp = true) (h : P.eqGuardType P.depth T = false) :
    (eqGuard op T x y u v).run P w = .ok () w := by
  obtain ⟨_, h2, h3⟩ := hu.2 rfl
  obtain ⟨_, k2, k3⟩ := hv.2 rfl
  cases hA : t.isAgg with
  | true =>
    obtain ⟨c, rfl⟩ := h2 (by simp [AV.agg, hA])
    obtain ⟨d, rfl⟩ := k2 (by simp [AV.agg, hA])
    exact guard_agg h
  | false =>
    cases t <;> simp [Ty.cmp, Ty.isAgg] at hc hA
    · rw [hu.int_inv.1, hv.int_inv.1]; exact guard_int
    · rw [hu.bool_inv, hv.bool_inv]; exact guard_bool
    · obtain ⟨s1, rfl, _⟩ := hu.str_inv
      obtain ⟨s2, rfl, _⟩ := hv.str_inv
      exact guard_str

theorem cmp_bin {op : BinOp} {T : TypeId} {x y : Operand} {t : Ty} {p q : t.den} {u v : Value} (hu : AvV w I σ H (.dat t p) u) (hv : AvV w I σ H (.dat t q) v) (hni : ∀ i, t ≠ .int i) (hns : t ≠ .str)
    (hc : t.cmp = true) (hd : descOk P fuel T t = true) (h : P.eqGuardType P.depth T = false) (hk : (match op with | .eql => k (.dat .bool (t.eqb p q)) | .neq => k (.dat .bool (bNot (t.eqb p q))) | _ => none) = some r) :
    Bin P w I σ H k r op T x y u v := by
  obtain ⟨cs, r1, o1, _⟩ := dat_cells hu hc
  obtain ⟨ds, r2, o2, _⟩ := dat_cells hv hc
  have he : (Op.equal T u v).run P w = .ok (t.eqb p q) w := eq_at fuel Op.maxDepth T t w I σ cs ds p q u v (by decide) hc hd r1 r2 o1 o2
  have hb : ∀ op, op = BinOp.eql ∨ op = BinOp.neq → (binOp op T u v).run P w = .ok (.bool (if op = .eql then t.eqb p q else !t.eqb p q)) w := by
    intro op hop
    have hAgg : t.isAgg = true ∨ t = .bool := by
      cases t <;> simp [Ty.cmp] at hc <;> simp [Ty.isAgg] <;> first | exact absurd rfl (hni _) | exact absurd rfl hns
    rcases hAgg with hA | rfl
    · obtain ⟨c, rfl⟩ := (hu.2 rfl).2.1 (by simp [AV.agg, hA])
      obtain ⟨d, rfl⟩ := (hv.2 rfl).2.1 (by simp [AV.agg, hA])
      rcases hop with rfl | rfl <;> simp [binOp, he]
    · rw [hu.bool_inv, hv.bool_inv] at he ⊢
      rcases hop with rfl | rfl <;> simp [binOp, he]
  split at hk
  · exact ⟨_, _, cmp_guard hu hv hc h, hb .eql (.inl rfl), hk, by simp only [if_true]; exact avv_bool, rfl⟩
  · exact ⟨_, _, cmp_guard hu hv hc h, hb .neq (.inr rfl), hk, by simp only [bNot_eq]; exact avv_bool, rfl⟩
  · simp at hk

theorem AvV.ptr_inv {id : Nat} {p q : Path} {off ver : Nat} {v : Value} (h : AvV w I σ H (.ptr id p q off ver) v) : ∃ a, v = .pointer (some a) := by
  obtain ⟨b, o, base, h1, _⟩ := h.one rfl rfl
  simp only [List.cons.injEq, and_true] at h1
  exact ⟨_, h1⟩
theorem AvV.vptr_inv {t : Ty} {x : t.den} {v : Value} (h : AvV w I σ H (.vptr t x) v) : ∃ a, v = .pointer (some a) := by
  obtain ⟨_, b, o, es, h1, _⟩ := h.one rfl rfl
  simp only [List.cons.injEq, and_true] at h1
  exact ⟨_, h1⟩

theorem bin_all {op : BinOp} {T : TypeId} {x y : Operand} {p q : AV} {u v : Value} (hu : AvV w I σ H p u) (hv : AvV w I σ H q v) (h : evBin P op T p q k = some r) : Bin P w I σ H k r op T x y u v := by
  replace hu := avv_unlb hu
  replace hv := avv_unlb hv
  have h0 := h
  unfold evBin at h
  split at h
  · rename_i i a j b h1 h2
    rw [h1] at hu
    rw [h2] at hv
    obtain ⟨rfl, a1, a2⟩ := hu.int_inv
    obtain ⟨rfl, b1, b2⟩ := hv.int_inv
    refine int_bin ⟨a1, a2⟩ ⟨b1, b2⟩ ?_
    unfold evBin at h0 ⊢
    rw [h1, h2] at h0
    exact h0
  · rename_i a b h1 h2
    rw [h1] at hu
    rw [h2] at hv
    obtain ⟨s1, rfl, e1, m1⟩ := hu.str_inv
    obtain ⟨s2, rfl, e2, m2⟩ := hv.str_inv
    refine str_bin m1 m2 ?_
    unfold evBin at h0 ⊢
    rw [h1, h2] at h0
    rw [← e1, ← e2]
    exact h0
  · rename_i h1 h2
    rw [h1] at hu
    rw [h2] at hv
    rw [hu.nil_inv, hv.nil_inv]
    split at h
    · rename_i hT; exact nil_bin (b := true) (.inl rfl) rfl hT h
    · simp at h
  · rename_i h1 h2
    rw [h1] at hu
    rw [h2] at hv
    obtain ⟨a, rfl⟩ := hu.ptr_inv
    rw [hv.nil_inv]
    split at h
    · rename_i hT; exact nil_bin (b := false) (.inr rfl) rfl hT h
    · simp at h
  · rename_i h1 h2
    rw [h1] at hu
    rw [h2] at hv
    obtain ⟨a, rfl⟩ := hv.ptr_inv
    rw [hu.nil_inv]
    split at h
    · rename_i hT; exact nil_bin (b := false) (.inl rfl) rfl hT h
    · simp at h
  · rename_i h1 h2
    rw [h1] at hu
    rw [h2] at hv
    obtain ⟨a, rfl⟩ := hu.vptr_inv
    rw [hv.nil_inv]
    split at h
    · rename_i hT; exact nil_bin (b := false) (.inr rfl) rfl hT h
    · simp at h
  · rename_i h1 h2
    rw [h1] at hu
    rw [h2] at hv
    obtain ⟨a, rfl⟩ := hv.vptr_inv
    rw [hu.nil_inv]
    split at h
    · rename_i hT; exact nil_bin (b := false) (.inl rfl) rfl hT h
    · simp at h
  · rename_i t a t' b hni hns h1 h2
    rw [h1] at hu
    rw [h2] at hv
    split at h
    · rename_i e
      subst e
      split at h
      · rename_i hc
        simp only [Bool.and_eq_true, Bool.not_eq_true'] at hc
        exact cmp_bin hu hv (fun i e => by subst e; exact hni i a i b rfl HEq.rfl rfl HEq.rfl) (fun e => by subst e; exact hns a b rfl HEq.rfl rfl HEq.rfl) hc.1.1 hc.1.2 hc.2 h
      · simp at h
    · simp at h
  · simp at h
end
end Go.Ev

namespace Go.Ev

section
variable {S : Start} {n n' : Nat} {w : World} {I : Imm} {σ : Nat → Value} {H : Heap} {own : Own} {loose : List Nat}
variable {RR : Type} {P : Program} {r : RR} {x : Sem Next} {k : AV → Heap → Option RR}
variable {C : Handler} {o : Oper} {st : St} {a : Act}

theorem unOp_ok {op : UnOp} {T' : TypeId} {y : Operand} (R : Inv S n w I σ st.heap own loose) (T : TRel n w I σ st a) (hn : n ≤ n') (ho : o.op = .unOp op T' y) (h : evOp P C o.op o.type st n k = some r) :
    Done P S n n' w I σ st.heap k r (execOp a.eval o) := by
  obtain ⟨hv, hi⟩ := eval_ok T y
  rw [ho] at h
  simp only [evOp, evUn] at h
  split at h
  · rename_i b he
    rw [he] at hv
    refine Done.same (v := .bool !b) R hn ?_ h avv_lb (by simp [AV.ids])
    simp [execOp, ho, hv.lb_inv, Op.unary]
  · rename_i b he
    rw [he] at hv
    refine Done.same R hn ?_ h avv_bool (by simp [AV.ids])
    simp [execOp, ho, hv.bool_inv, Op.unary, bNot_eq]
  · rename_i i b he
    rw [he] at hv
    refine Done.same R hn ?_ h wrapK_avv (by simp [AV.ids])
    simp [execOp, ho, hv.int_inv.1, Op.unary, Op.intArith, isub_eq]
  · simp at h

theorem mapM_bytes (l : List Int) (h : ∀ x ∈ l, 0 ≤ x ∧ x ≤ 255) : bytesOf ⟨(l.map fun x => UInt8.ofNat x.toNat).toArray⟩ = l := by
  simp only [bytesOf]
  induction l with
  | nil => rfl
  | cons a l ih =>
    have ha := h a (by simp)
    have := ih fun x hx => h x (by simp [hx])
    simp only [List.map_cons, List.cons.injEq]
    refine ⟨?_, this⟩
    rw [UInt8.toNat_ofNat']
    omega

theorem byte_cells {css : List (List Value)} {l : List Int} {ows : List (List Nat)} (h : All3 (TRep w I σ (.int .u8)) css l ows) : css.flatten = l.map (.int .u8 ·) ∧ ∀ x ∈ l, 0 ≤ x ∧ x ≤ 255 := by
  induction l generalizing css ows with
  | nil =>
    match css, ows, h with
    | [], [], _ => simp
    | [], _ :: _, h => exact h.elim
    | _ :: _, [], h => exact h.elim
    | _ :: _, _ :: _, h => exact h.elim
  | cons b l ih =>
    match css, ows, h with
    | c :: css, o :: ows, h =>
      obtain ⟨⟨_, h1, h2, h3⟩, h4⟩ := h
      obtain ⟨h5, h6⟩ := ih h4
      subst h1
      refine ⟨by simp [h5], fun x hx => ?_⟩
      rcases List.mem_cons.1 hx with rfl | hx
      · exact ⟨h2, h3⟩
      · exact h6 x hx
    | [], [], h => exact h.elim
    | [], _ :: _, h => exact h.elim
    | _ :: _, [], h => exact h.elim

end
end Go.Ev

namespace Go.Ev

section
variable {S : Start} {n n' : Nat} {w : World} {I : Imm} {σ : Nat → Value} {H : Heap} {own : Own} {loose : List Nat}
variable {RR : Type} {P : Program} {r : RR} {x : Sem Next} {k : AV → Heap → Option RR}
variable {C : Handler} {o : Oper} {st : St} {a : Act}

theorem cell_blk' {b : Nat} {es : Array Value} (h : Blk w b es) {j : Nat} {v : Value} (hv : es.toList[j]? = some v) : w.cell? ⟨b, j, none⟩ = some v := by
  obtain ⟨eid, hb⟩ := h
  simp only [World.cell?, hb]
  simpa using hv

/-- Where the cells of a list lie. -/
def Lies (w : World) (a : Option Addr) (m : Nat) (cells : List Value) : Prop :=
  m = 0 ∨ ∃ b o, a = some ⟨b, o, none⟩ ∧ ∀ j v, cells[j]? = some v → w.cell? ⟨b, o + j, none⟩ = some v

theorem vec_lies {s : Bool} {e : Ty} {cs : List Value} {l : List e.den} {ow : List Nat} (h : TRep w I σ (.vec s e) cs l ow) :
    ∃ a m c css ows, cs = [.slice a m c] ∧ l.length = m ∧ m ≤ maxI ∧ All3 (TRep w I σ e) css l ows ∧ Lies w a m css.flatten ∧ ows.flatten.Sublist ow := by
  obtain ⟨a, cap, rfl, h1, h2, h⟩ := h
  rcases h with ⟨rfl, rfl, rfl, rfl⟩ | ⟨b, es, css, ows, rfl, hb, h3, h4, rfl, h5, h6⟩
  · exact ⟨none, 0, 0, [], [], rfl, rfl, by decide, trivial, .inl rfl, by simp⟩
  · refine ⟨_, _, cap, css, ows, rfl, rfl, by omega, h5, .inr ⟨b, 0, rfl, fun j v hv => ?_⟩, List.sublist_cons_self _ _⟩
    rw [Nat.zero_add]
    rw [h4, List.getElem?_take] at hv
    split at hv
    · exact cell_blk' hb hv
    · simp at hv

theorem list_read (R : Inv S n w I σ H own loose) {v : AV} {lv : LV} (h : H.list v = some lv) {cs : List Value} (hc : AvC w I σ H v cs) :
    ∃ a m c css ows, cs = [.slice a m c] ∧ lv.l.length = m ∧ m ≤ maxI ∧ All3 (TRep w I σ lv.e) css lv.l ows ∧ Lies w a m css.flatten := by
  unfold Heap.list at h
  split at h
  · rename_i e l
    simp only [Option.some.injEq] at h
    subst h
    obtain ⟨_, _, hp, sa, cap, css, ows, e1, e2, e3, e4, e5⟩ := hc
    refine ⟨sa, _, cap, css, ows, e1, rfl, by omega, e4, ?_⟩
    by_cases hl : l = []
    · exact .inl (by subst hl; rfl)
    · obtain ⟨b, o, rfl, hI⟩ := e5 hl
      exact .inr ⟨b, o, rfl, fun j v hv => R.rel.imm _ _ _ (hI j v hv)⟩
  · rename_i id p ver
    simp only [Option.bind_eq_some_iff] at h
    obtain ⟨⟨ob, u⟩, h1, h⟩ := h
    simp only at h
    split at h
    · rename_i s e l
      simp only [Option.some.injEq] at h
      subst h
      obtain ⟨sa, m, c, kk, e1, e2⟩ := hc
      obtain ⟨g1, g2, g3, g4⟩ := hdr_of h1 e2
      obtain ⟨q1, q2, sp, ou, pre, post, lh, F, hcs⟩ := hdr_focus R g1 g2 rfl g4
      have hrep := F.rep
      rw [hcs, ← e1] at hrep
      obtain ⟨a', m', c', css, ows, f1, f2, f3, f4, f5, _⟩ := vec_lies hrep
      exact ⟨a', m', c', css, ows, f1, f2, f3, f4, f5⟩
    · simp at h
  · rename_i id p ver off len
    simp only [Option.bind_eq_some_iff] at h
    obtain ⟨⟨ob, u⟩, h1, h⟩ := h
    simp only at h
    split at h
    · rename_i s e l
      simp only [Option.some.injEq] at h
      subst h
      obtain ⟨sa, m, c, ha, hl, hcap, kk, e1, f1, f2, f3, f4, f5, f6, e2⟩ := hc
      obtain ⟨g1, g2, g3, g4⟩ := hdr_of h1 e2
      obtain ⟨q1, q2, sp, ou, pre, post, lh, F, hcs⟩ := hdr_focus R g1 g2 rfl g4
      have hrep := F.rep
      rw [hcs] at hrep
      have hk : e.width = kk := q1
      obtain ⟨a', m', c', css, ows, i1, i2, i3, i4, i5, _⟩ := vec_lies hrep
      simp only [List.cons.injEq, Value.slice.injEq, and_true] at i1
      obtain ⟨rfl, rfl, rfl⟩ := i1
      have i2' : List.length (α := e.den) l = hl := i2
      have hlen : (sub (α := e.den) l off (iadd off len)).length = m := by
        rw [sub_eq, iadd_eq]; simp only [List.length_drop, List.length_take]; omega
      refine ⟨sa, m, c, _, _, e1, hlen, by omega, by rw [sub_eq]; exact sub_all3 i4 off.toNat (iadd off len).toNat, ?_⟩
      by_cases hm : m = 0
      · exact .inl hm
      · right
        rcases i5 with i5 | ⟨b, o, rfl, hcell⟩
        · omega
        · refine ⟨b, o + off.toNat * kk, ?_, fun j v hv => ?_⟩
          · rw [f6 (by omega)]; simp [addr_add]
          · rw [Nat.add_assoc]
            refine hcell _ v ?_
            rw [← hk]
            exact flatten_seg (fun c hc => by obtain ⟨_, _, hh⟩ := All3.mem_l i4 c hc; exact hh.len) _ _ hv
    · simp at h
  · simp at h

theorem wrap_id {i : IntKind} {z : Int} (h1 : i.min ≤ z) (h2 : z ≤ i.max) : i.wrap z = z := by
  cases i <;> simp [IntKind.wrap, IntKind.min, IntKind.max, IntKind.signed, IntKind.bits] at * <;> (try split) <;> omega

theorem list_isT {v : AV} {lv : LV} (h : H.list v = some lv) : isT v = false ∧ v.agg = some false := by
  unfold Heap.list at h
  split at h <;> first | exact ⟨rfl, rfl⟩ | (simp at h)

theorem i64_nat {m : Nat} (h : m ≤ maxI) : IntKind.i64.min ≤ (m : Int) ∧ (m : Int) ≤ IntKind.i64.max := by
  simp [IntKind.min, IntKind.max, IntKind.signed, IntKind.bits, maxI] at *
  omega

theorem run_builtin {c : Call} {b : Builtin} (ho : o.op = .call c) (hc : c.callee = .builtin b) : ∃ cn, (execOp a.eval o).run P w = (builtin b c.argTypes o.type cn (c.args.map a.eval)).run P w := by
  refine ⟨c.args.map (fun | .const _ => true | _ => false), ?_⟩
  simp only [execOp, ho, resolve, hc, Sem.run_bind, Sem.run_pure, Result.andThen_ok, invoke]
  rfl

theorem args_one {c : Call} {f : Operand → AV} {z : AV} (h : c.args.toList.map f = [z]) : ∃ y, c.args = #[y] ∧ f y = z := by
  cases hl : c.args.toList with
  | nil => rw [hl] at h; simp at h
  | cons y l =>
    rw [hl] at h
    simp only [List.map_cons, List.cons.injEq, List.map_eq_nil_iff] at h
    obtain ⟨h1, rfl⟩ := h
    exact ⟨y, by rw [← Array.toList_inj, hl], h1⟩
theorem args_two {c : Call} {f : Operand → AV} {z z' : AV} (h : c.args.toList.map f = [z, z']) : ∃ y y', c.args = #[y, y'] ∧ f y = z ∧ f y' = z' := by
  cases hl : c.args.toList with
  | nil => rw [hl] at h; simp at h
  | cons y l =>
    cases l with
    | nil => rw [hl] at h; simp at h
    | cons y' l =>
      rw [hl] at h
      simp only [List.map_cons, List.cons.injEq, List.map_eq_nil_iff] at h
      obtain ⟨h1, h2, rfl⟩ := h
      exact ⟨y, y', by rw [← Array.toList_inj, hl], h1, h2⟩

theorem len_ok {c : Call} (R : Inv S n w I σ st.heap own loose) (T : TRel n w I σ st a) (hn : n ≤ n') (ho : o.op = .call c) (hb : c.callee = .builtin .len) (h : evOp P C o.op o.type st n k = some r) :
    Done P S n n' w I σ st.heap k r (execOp a.eval o) := by
  rw [ho] at h
  simp only [evOp, evCall, hb] at h
  obtain ⟨cn, hrun⟩ := run_builtin (P := P) (w := w) (a := a) ho hb
  split at h
  · rename_i t z hat hargs
    obtain ⟨y, hy, hz⟩ := args_one hargs
    obtain ⟨hv, hi⟩ := eval_ok T y
    rw [hz] at hv
    split at h
    · rename_i s hu
      obtain ⟨bs, e1, rfl, e2⟩ := hv.str_inv
      rw [ln_eq, bytesOf_len] at h
      refine Done.same R hn ?_ h (avv_int (i64_nat e2).1 (i64_nat e2).2) (by simp [AV.ids])
      rw [hrun]
      simp [builtin, Builtin.len_, hat, hy, e1, run_und hu, goInt]
    · rename_i hu
      have e1 := hv.nsl_inv
      refine Done.same (v := .int .i64 0) R hn ?_ h (avv_int (by decide) (by decide)) (by simp [AV.ids])
      rw [hrun]
      simp [builtin, Builtin.len_, hat, hy, e1, run_und hu, goInt]
    · rename_i hu _
      simp only [Option.bind_eq_some_iff] at h
      obtain ⟨lv, h1, h⟩ := h
      have hl := list_isT h1
      obtain ⟨sa, m, cc, css, ows, e1, e2, e3, e4, e5⟩ := list_read R h1 (hv.one hl.1 hl.2)
      simp only [List.cons.injEq, and_true] at e1
      rw [ln_eq, e2] at h
      refine Done.same R hn ?_ h (avv_int (i64_nat e3).1 (i64_nat e3).2) (by simp [AV.ids])
      rw [hrun]
      simp [builtin, Builtin.len_, hat, hy, e1, run_und hu, goInt]
    · simp at h
  · simp at h

theorem min_ok {c : Call} (R : Inv S n w I σ st.heap own loose) (T : TRel n w I σ st a) (hn : n ≤ n') (ho : o.op = .call c) (hb : c.callee = .builtin .min ∨ c.callee = .builtin .max) (h : evOp P C o.op o.type st n k = some r) :
    Done P S n n' w I σ st.heap k r (execOp a.eval o) := by
  rw [ho] at h
  rcases hb with hb | hb
  · simp only [evOp, evCall, hb] at h
    obtain ⟨cn, hrun⟩ := run_builtin (P := P) (w := w) (a := a) ho hb
    split at h
    · rename_i i p j q hargs
      obtain ⟨y, z, hy, hz, hz'⟩ := args_two hargs
      obtain ⟨hv, hi⟩ := eval_ok T y
      obtain ⟨hv2, hi2⟩ := eval_ok T z
      rw [hz] at hv
      rw [hz'] at hv2
      obtain ⟨e1, e2, e3⟩ := hv.int_inv
      obtain ⟨f1, f2, f3⟩ := hv2.int_inv
      split at h
      · rename_i hij
        have hij : i = j := by simpa using hij
        subst hij
        rw [imin_eq] at h
        refine Done.same (v := .int i (if (q : Int) < p then q else p)) R hn ?_ h (avv_int (by split <;> assumption) (by split <;> assumption)) (by simp [AV.ids])
        rw [hrun]
        simp [builtin, Builtin.min_, Builtin.min2, hy, e1, f1]
      · simp at h
    · simp at h
  · simp only [evOp, evCall, hb] at h
    obtain ⟨cn, hrun⟩ := run_builtin (P := P) (w := w) (a := a) ho hb
    split at h
    · rename_i i p j q hargs
      obtain ⟨y, z, hy, hz, hz'⟩ := args_two hargs
      obtain ⟨hv, hi⟩ := eval_ok T y
      obtain ⟨hv2, hi2⟩ := eval_ok T z
      rw [hz] at hv
      rw [hz'] at hv2
      obtain ⟨e1, e2, e3⟩ := hv.int_inv
      obtain ⟨f1, f2, f3⟩ := hv2.int_inv
      split at h
      · rename_i hij
        have hij : i = j := by simpa using hij
        subst hij
        rw [imax_eq] at h
        refine Done.same (v := .int i (if (p : Int) < q then q else p)) R hn ?_ h (avv_int (by split <;> assumption) (by split <;> assumption)) (by simp [AV.ids])
        rw [hrun]
        simp [builtin, Builtin.max_, Builtin.max2, hy, e1, f1]
      · simp at h
    · simp at h

theorem fold_push : ∀ (l : List Int) (s : ByteArray), l.foldl (fun r n => r.push (UInt8.ofNat n.toNat)) s = ⟨s.data ++ (l.map fun x => UInt8.ofNat x.toNat).toArray⟩
  | [], s => by simp
  | b :: l, s => by
    rw [List.foldl_cons, fold_push l]
    congr 1
    apply Array.toList_inj.1
    simp [ByteArray.push]

theorem convert_ok {s d : TypeId} {y : Operand} (R : Inv S n w I σ st.heap own loose) (T : TRel n w I σ st a) (hn : n ≤ n') (ho : o.op = .convert s d y) (h : evOp P C o.op o.type st n k = some r) :
    Done P S n n' w I σ st.heap k r (execOp a.eval o) := by
  obtain ⟨hv, hi⟩ := eval_ok T y
  rw [ho] at h
  simp only [evOp, evConv] at h
  split at h
  · rename_i i j i' p hu hu' he
    rw [he] at hv
    obtain ⟨e1, e2, e3⟩ := hv.int_inv
    have hrun : (execOp a.eval o).run P w = .ok (.value (.int j (j.wrap p))) w := by
      simp [execOp, ho, convert, run_und hu, run_und hu', e1, Conv.intToInt]
    split at h
    · rename_i hii
      have hii : i = i' := by simpa using hii
      subst hii
      split at h
      · rename_i hij
        have hij : i = j := by simpa using hij
        subst hij
        rw [wrap_id e2 e3] at hrun
        exact Done.same R hn hrun h (avv_int e2 e3) (by simp [AV.ids])
      · exact Done.same R hn hrun h wrapK_avv (by simp [AV.ids])
    · simp at h
  · rename_i s hu hu' he
    rw [he] at hv
    obtain ⟨bs, e1, e2, e3⟩ := hv.str_inv
    subst e2
    refine Done.same R hn ?_ h (avv_str e3) (by simp [AV.ids])
    simp [execOp, ho, convert, run_und hu, run_und hu', e1]
  · rename_i e hu hu'
    have hue : P.underlying e = some (.int .u8) → (convert s d (.slice none 0 0)).run P w = .ok (.string .empty) w := by
      intro hx
      simp [convert, run_und hu, run_und hu', run_und hx, Conv.bytesToString]
    split at h
    · rename_i hb he
      rw [he] at hv
      have e1 := hv.nsl_inv
      refine Done.same (v := .string .empty) R hn ?_ h (avv_str (s := .empty) (by decide)) (by simp [AV.ids])
      simp only [execOp, ho, e1, Sem.run_bind, hue hb, Result.andThen_ok, Sem.run_pure]
    · rename_i hb _
      split at h
      · rename_i l hl
        have hlt := list_isT hl
        obtain ⟨sa, m, cc, css, ows, e1, e2, e3, e4, e5⟩ := list_read R hl (hv.one hlt.1 hlt.2)
        simp only [List.cons.injEq, and_true] at e1
        obtain ⟨hcs, hby⟩ := byte_cells e4
        have hfin : (convert s d (.slice sa m cc)).run P w = .ok (.string ⟨((l : List Int).map fun x => UInt8.ofNat x.toNat).toArray⟩) w := by
          cases sa with
          | none =>
            have hm0 : m = 0 := by rcases e5 with e5 | ⟨_, _, e, _⟩; exact e5; simp at e
            subst hm0
            have : (l : List Int) = [] := List.eq_nil_of_length_eq_zero e2
            rw [this]
            simp [convert, run_und hu, run_und hu', run_und hb, Conv.bytesToString]
            rfl
          | some ad =>
            have hload : (loadCells ad m).run P w = .ok ((l : List Int).map (Value.int .u8)).toArray w := by
              rcases e5 with e5 | ⟨b, o', e, hcell⟩
              · subst e5
                have : (l : List Int) = [] := List.eq_nil_of_length_eq_zero e2
                rw [this]
                simp [loadCells, loadCellsFrom]
              · injection e with e
                subst e
                have := run_loadCells P w b o' css.flatten hcell
                rw [hcs] at this
                have hl2 : ((l : List Int).map (Value.int .u8)).length = m := by rw [List.length_map]; exact e2
                rw [← hl2]
                exact this
            simp only [convert, Sem.run_bind, run_und hu, run_und hu', Result.andThen_ok, run_und hb]
            rw [run_bytesToString w ad m cc (l : List Int) hload, fold_push (l : List Int) ByteArray.empty]
            simp
        refine Done.same (v := .string ⟨((l : List Int).map fun x => UInt8.ofNat x.toNat).toArray⟩) R hn ?_ h ?_ (by simp [AV.ids])
        · simp only [execOp, ho, e1, Sem.run_bind, hfin, Result.andThen_ok, Sem.run_pure]
        · have hb2 := mapM_bytes (l : List Int) hby
          have := avv_str (w := w) (I := I) (σ := σ) (H := st.heap) (s := ⟨((l : List Int).map fun x => UInt8.ofNat x.toNat).toArray⟩) (by
            rw [← bytesOf_len, hb2]; exact e2 ▸ e3)
          rw [hb2] at this
          exact this
      · simp at h
    · simp at h
  · simp at h
/-! ### Is a slice nil? -/
theorem guard_sl {op : BinOp} {T : TypeId} {x y : Operand} {sa sb : Option Addr} {m c m' c' : Nat} : (eqGuard op T x y (.slice sa m c) (.slice sb m' c')).run P w = .ok () w := by
  cases op <;> simp [eqGuard]

theorem equalIn_sl (d : Nat) {T e : TypeId} (hT : P.underlying T = some (.slice e)) {sa : Option Addr} {m c : Nat} : (Op.equalIn (d + 1) T (.slice sa m c) (.slice none 0 0)).run P w = .ok sa.isNone w := by
  cases sa <;> simp [Op.equalIn, run_und hT]

theorem sl_bin {k : AV → Option RR} {op : BinOp} {T : TypeId} {x y : Operand} {sa : Option Addr} {m c : Nat} (hT : slCmp P T op = true) (h : k (.lb (slOut op sa.isNone)) = some r) :
    Bin P w I σ H k r op T x y (.slice sa m c) (.slice none 0 0) := by
  have key : (op = .eql ∨ op = .neq) ∧ ∃ e, P.underlying T = some (.slice e) := by
    unfold slCmp at hT
    split at hT <;> first | (split at hT <;> first | exact ⟨.inl rfl, _, by assumption⟩ | exact ⟨.inr rfl, _, by assumption⟩ | simp at hT) | simp at hT
  obtain ⟨hop, e, hT⟩ := key
  have hq : (Op.equal T (.slice sa m c) (.slice none 0 0)).run P w = .ok sa.isNone w := equalIn_sl 9999 hT
  rcases hop with rfl | rfl
  · exact ⟨.bool sa.isNone, _, guard_sl, by simp [binOp, hq], h, avv_lb, rfl⟩
  · exact ⟨.bool !sa.isNone, _, guard_sl, by simp [binOp, hq], h, avv_lb, rfl⟩

theorem sl_all {k : AV → Option RR} {op : BinOp} {T : TypeId} {x y : Operand} {p q : AV} {u v : Value} (R : Inv S n w I σ H own loose) (hu : AvV w I σ H p u) (hv : AvV w I σ H q v) (h : evSl P H op T p q k = some r) : Bin P w I σ H k r op T x y u v := by
  unfold evSl at h
  split at h
  · rename_i hT
    split at h
    · rw [hv.nsl_inv]
      split at h
      · rw [hu.nsl_inv]
        exact sl_bin hT h
      · obtain ⟨l, h1, h2⟩ := Option.bind_eq_some_iff.1 h
        have hl := list_isT h1
        obtain ⟨sa, m, c, css, ows, e1, e2, e3, e4, e5⟩ := list_read R h1 (hu.one hl.1 hl.2)
        simp only [List.cons.injEq, and_true] at e1
        subst e1
        refine sl_bin hT ?_
        unfold slNil at h2
        rw [br_eq, bEq_eq, ln_eq, e2] at h2
        split at h2
        · obtain ⟨h3, h4⟩ := both_some h2
          cases sa.isNone <;> assumption
        · rename_i hm
          simp only [decide_eq_true_eq] at hm
          rcases e5 with e5 | ⟨b, o, rfl, _⟩
          · exact absurd (by rw [e5]; rfl) hm
          · exact h2
    · simp at h
  · exact bin_all hu hv h

theorem binOp_ok {op : BinOp} {T' : TypeId} {y z : Operand} {q : TypeId} (R : Inv S n w I σ st.heap own loose) (T : TRel n w I σ st a) (hn : n ≤ n') (ho : o.op = .binOp op T' y z q) (h : evOp P C o.op o.type st n k = some r) :
    Done P S n n' w I σ st.heap k r (execOp a.eval o) := by
  obtain ⟨hv, hi⟩ := eval_ok T y
  obtain ⟨hv2, hi2⟩ := eval_ok T z
  rw [ho] at h
  simp only [evOp] at h
  obtain ⟨v, av, e1, e2, e3, e4, e5⟩ := sl_all (x := y) (y := z) R hv hv2 h
  refine Done.same R hn ?_ e3 e4 (by simp [e5])
  simp only [execOp, ho, Sem.run_bind, e1, Result.andThen_ok, e2, Sem.run_pure]
end
end Go.Ev

namespace Go.Ev

section
variable {S : Start} {n n' : Nat} {w : World} {I : Imm} {σ : Nat → Value} {H : Heap} {own : Own} {loose : List Nat}
variable {RR : Type} {P : Program} {r : RR} {x : Sem Next} {k : AV → Heap → Option RR}
variable {C : Handler} {o : Oper} {st : St} {a : Act}

/-- What is appended: its length and its cells, read now or one draw later. -/
def Src (P : Program) (w : World) (v : Value) (m sz : Nat) (cells : List Value) : Prop :=
  ∀ w' : World, w'.heap = w.heap → (Builtin.lenOf v).run P w' = .ok m w' ∧ (Builtin.firstCells sz m v).run P w' = .ok cells.toArray w'

theorem cell_heap {w w' : World} (h : w'.heap = w.heap) (a : Addr) : w'.cell? a = w.cell? a := by simp only [World.cell?, h]

theorem src_list {a : Option Addr} {m c sz : Nat} {css : List (List Value)} (hl : css.flatten.length = m * sz) (h : Lies w a m css.flatten) : Src P w (.slice a m c) m sz css.flatten := by
  intro w' hw
  refine ⟨by simp [Builtin.lenOf], ?_⟩
  cases a with
  | none =>
    rcases h with h | ⟨_, _, e, _⟩
    · subst h
      have : css.flatten = [] := List.eq_nil_of_length_eq_zero (by simpa using hl)
      rw [this]
      simp [Builtin.firstCells]
    · simp at e
  | some ad =>
    simp only [Builtin.firstCells]
    rcases h with h | ⟨b, o, e, hc⟩
    · subst h
      have : css.flatten = [] := List.eq_nil_of_length_eq_zero (by simpa using hl)
      rw [this]
      simp [loadCells, loadCellsFrom]
    · injection e with e
      subst e
      rw [← hl]
      exact run_loadCells P w' b o css.flatten fun j v hv => by rw [cell_heap hw]; exact hc j v hv

theorem src_str {s : ByteArray} : Src P w (.string s) s.size 1 ((bytesOf s).map (.int .u8 ·)) := by
  intro w' _
  refine ⟨by simp [Builtin.lenOf], ?_⟩
  simp only [Builtin.firstCells, Sem.run_pure]
  congr 1
  apply Array.toList_inj.1
  obtain ⟨⟨l⟩⟩ := s
  simp [bytesOf, ByteArray.size, ByteArray.data_extract]

theorem run_append_fits {ats : Array TypeId} {T e ty : TypeId} {i : TypeInfo} {m sLen sCap b : Nat} {es : Array Value} {cells : List Value} {v : Value} (hT : ats[0]? = some T) (hu : P.underlying T = some (.slice e)) (hi : P.info? e = some i)
    (hz : ∀ U, ats[1]? = some U → P.underlying U = some .string ∨ ∃ e, P.underlying U = some (.slice e)) (hs : Src P w v m i.size cells) (hb : Blk w b es) (hfit : sLen * i.size + cells.length ≤ es.size) (h1 : ∀ c ∈ cells, c.oneCell' = true) (hroom : sLen + m ≤ sCap) :
    ∃ w' es', (Builtin.append_ ats ty #[.slice (some ⟨b, 0, none⟩) sLen sCap, v]).run P w = .ok (.slice (some ⟨b, 0, none⟩) (sLen + m) sCap) w' ∧ Blk w' b es' ∧ es'.toList = splice es.toList (sLen * i.size) cells ∧
      (∀ c, c ≠ b → w'.heap[c]? = w.heap[c]?) ∧ w'.heap.size = w.heap.size ∧ w'.os = w.os ∧ w'.tape = w.tape ∧ w'.output = w.output := by
  obtain ⟨w', es', k1, k2, k3, k4⟩ := run_storeCells P cells w b (sLen * i.size) 0 es hb (by omega) h1
  rw [Nat.add_zero] at k3
  obtain ⟨q1, q2⟩ := hs w rfl
  refine ⟨w', es', ?_, k2, k3, k4⟩
  cases h : ats[1]? with
  | none => simp [Builtin.append_, hT, h, run_und hu, run_sz hi, q1, q2, hroom, addr_add, k1]
  | some U =>
    rcases hz U h with h1 | ⟨_, h1⟩ <;> simp [Builtin.append_, hT, h, run_und hu, run_und h1, run_sz hi, q1, q2, hroom, addr_add, k1]

theorem run_append_none {ats : Array TypeId} {T e ty : TypeId} {i : TypeInfo} {v : Value} (hT : ats[0]? = some T) (hu : P.underlying T = some (.slice e)) (hi : P.info? e = some i)
    (hz : ∀ U, ats[1]? = some U → P.underlying U = some .string ∨ ∃ e, P.underlying U = some (.slice e)) (hs : Src P w v 0 i.size []) :
    (Builtin.append_ ats ty #[.slice none 0 0, v]).run P w = .ok (.slice none 0 0) w := by
  obtain ⟨q1, q2⟩ := hs w rfl
  cases h : ats[1]? with
  | none => simp [Builtin.append_, hT, h, run_und hu, run_sz hi, q1, q2]
  | some U =>
    rcases hz U h with h1 | ⟨_, h1⟩ <;> simp [Builtin.append_, hT, h, run_und hu, run_und h1, run_sz hi, q1, q2]

theorem run_append_grows {ats : Array TypeId} {T e ty : TypeId} {i : TypeInfo} {z : Value} {m sLen sCap : Nat} {base : Option Addr} {olds cells : List Value} {v : Value} (hT : ats[0]? = some T) (hu : P.underlying T = some (.slice e)) (hi : P.info? e = some i) (hzv : i.zero = some z)
    (hz : ∀ U, ats[1]? = some U → P.underlying U = some .string ∨ ∃ e, P.underlying U = some (.slice e)) (hs : Src P w v m i.size cells) (ho : Src P w (.slice base sLen sCap) sLen i.size olds) (hroom : sCap < sLen + m)
    (h63 : ((sLen + m : Nat) : Int) ≤ 9223372036854775807) (hfit : Builtin.nextslicecap (sLen + m) sCap * i.bytes ≤ 281474976710656) :
    (Builtin.append_ ats ty #[.slice base sLen sCap, v]).run P w = .ok (.slice (some ⟨w.heap.size, 0, none⟩) (sLen + m) (grownCap w (sLen + m) sCap e))
      (w.drew.alloc (.cells (olds.toArray ++ cells.toArray ++ Builtin.zeroCells z.cells (grownCap w (sLen + m) sCap e - (sLen + m))) e)) := by
  obtain ⟨q1, q2⟩ := hs w rfl
  obtain ⟨_, q3⟩ := hs w.drew rfl
  obtain ⟨_, q4⟩ := ho w.drew rfl
  have hn : ¬ (sLen + m ≤ sCap) := by omega
  have h63' : ¬ (9223372036854775807 < ((sLen : Int) + (m : Int))) := by omega
  have h48' : ¬ (281474976710656 < Builtin.nextslicecap (sLen + m) sCap * i.bytes) := by omega
  cases h : ats[1]? with
  | none =>
    simp [Builtin.append_, hT, h, run_und hu, sizeOf, typeInfo, zeroValue, hi, hzv, q1, q2, q3, q4, hn, h63', h48', Question.forced, newRow, grownCap]
    congr 2
    apply Array.ext'
    simp [List.append_assoc]
  | some U =>
    rcases hz U h with h1 | ⟨_, h1⟩ <;> (simp [Builtin.append_, hT, h, run_und hu, run_und h1, sizeOf, typeInfo, zeroValue, hi, hzv, q1, q2, q3, q4, hn, h63', h48', Question.forced, newRow, grownCap]; congr 2; apply Array.ext'; simp [List.append_assoc])

/-- What is fixed of a block that is hard. -/
def firm (s : Bool) (I : Imm) (b : Nat) (es : List Value) (m : Nat) : Imm := if s then hardened I b es m else I

theorem firm_out {s : Bool} {b m : Nat} {es : List Value} {b' : Nat} (h : b' ≠ b) (j : Nat) : firm s I b es m b' j = I b' j := by
  unfold firm
  split
  · unfold hardened; rw [if_neg]; rintro ⟨e, _⟩; exact h e
  · rfl

theorem append_vec {s : Bool} {te : Ty} {ats : Array TypeId} {T e ty : TypeId} {i : TypeInfo} {z : Value} {v0 v : Value} {l m : List te.den} {ou : List Nat} {css2 : List (List Value)} {ows2 : List (List Nat)}
    (himm : ∀ b j v, I b j = some v → w.cell? ⟨b, j, none⟩ = some v) (hT : ats[0]? = some T) (hu : P.underlying T = some (.slice e)) (hi : P.info? e = some i) (hsz : i.size = te.width) (hzv : i.zero = some z) (hzs : z.cells.size = te.width) (hby : i.bytes ≠ 0)
    (hz : ∀ U, ats[1]? = some U → P.underlying U = some .string ∨ ∃ e, P.underlying U = some (.slice e)) (h1 : TRep w I σ (.vec s te) [v0] l ou) (h2 : All3 (TRep w I σ te) css2 m ows2) (hnd : (ou ++ ows2.flatten).Nodup)
    (hsp : s = true → te.pure = true) (hs : Src P w v m.length te.width css2.flatten) (hb : (l.length + m.length) * i.bytes ≤ 140737488355328) :
    ∃ a' c' w' I' own1, (Builtin.append_ ats ty #[v0, v]).run P w = .ok (.slice a' (l.length + m.length) c') w' ∧ TRep w' I' σ (.vec s te) [.slice a' (l.length + m.length) c'] (l ++ m) own1 ∧ own1.Nodup ∧
      (∀ b ∈ own1, b ∈ ou ++ ows2.flatten ∨ (w.heap.size ≤ b ∧ b < w'.heap.size)) ∧ Kept w w' I I' (fun b => b ∈ ou) ∧ ∀ b j v, I' b j = some v → w'.cell? ⟨b, j, none⟩ = some v := by
  obtain ⟨a, cap, e1, e2, e3, hv⟩ := h1
  simp only [List.cons.injEq, and_true] at e1
  subst e1
  have hl2 : css2.flatten.length = m.length * te.width := by
    rw [flat_len (fun c hc => by obtain ⟨_, _, hh⟩ := All3.mem_l h2 c hc; exact hh.len), h2.len.1]
  have hone2 : ∀ c ∈ css2.flatten, c.oneCell' = true := by
    intro c hc
    obtain ⟨c1, hc1, hc2⟩ := List.mem_flatten.1 hc
    obtain ⟨_, _, hh⟩ := All3.mem_l h2 c1 hc1
    exact hh.one c hc2
  have hneed : l.length + m.length ≤ 140737488355328 := Nat.le_trans (Nat.le_mul_of_pos_right _ (Nat.pos_of_ne_zero hby)) hb
  have hgrow : ∀ (olds : List Value) (css1 : List (List Value)) (ows1 : List (List Nat)), cap < l.length + m.length → olds = css1.flatten → All3 (TRep w I σ te) css1 l ows1 → (ows1.flatten ++ ows2.flatten).Nodup → (∀ b ∈ ows1.flatten, b ∈ ou) →
      Src P w (.slice a l.length cap) l.length te.width olds → ∃ a' c' w' I' own1, (Builtin.append_ ats ty #[.slice a l.length cap, v]).run P w = .ok (.slice a' (l.length + m.length) c') w' ∧ TRep w' I' σ (.vec s te) [.slice a' (l.length + m.length) c'] (l ++ m) own1 ∧ own1.Nodup ∧
      (∀ b ∈ own1, b ∈ ou ++ ows2.flatten ∨ (w.heap.size ≤ b ∧ b < w'.heap.size)) ∧ Kept w w' I I' (fun b => b ∈ ou) ∧ ∀ b j v, I' b j = some v → w'.cell? ⟨b, j, none⟩ = some v := by
    intro olds css1 ows1 hlt ho h3 hnd3 hsub3 hso
    have hrun := run_append_grows (P := P) (w := w) (ty := ty) (z := z) hT hu hi hzv hz (by rw [hsz]; exact hs) (by rw [hsz]; exact hso) hlt (by omega) (growslice_fits hlt hb)
    have hge := grownCap_ge w (l.length + m.length) cap e
    have hle := grownCap_le_maxLen w (l.length + m.length) cap e (by simp [maxLen]; omega)
    generalize hC : grownCap w (l.length + m.length) cap e = C at *
    generalize hes : olds.toArray ++ css2.flatten.toArray ++ Builtin.zeroCells z.cells (C - (l.length + m.length)) = es at *
    have hl1 : css1.flatten.length = l.length * te.width := by
      rw [flat_len (fun c hc => by obtain ⟨_, _, hh⟩ := All3.mem_l h3 c hc; exact hh.len), h3.len.1]
    have hesl : es.toList = css1.flatten ++ css2.flatten ++ (Builtin.zeroCells z.cells (C - (l.length + m.length))).toList := by rw [← hes]; simp [ho]
    have hesz : es.size = C * te.width := by
      have : es.toList.length = C * te.width := by
        rw [hesl]
        simp only [List.length_append, hl1, hl2, Array.length_toList, size_zeroCells, hzs]
        rw [← Nat.add_mul, ← Nat.add_mul]
        congr 1; omega
      simpa using this
    let w' := w.drew.alloc (.cells es e)
    have hwh : w'.heap = w.heap.push (.cells es e) := rfl
    have hblk : Blk w' w.heap.size es := ⟨e, by rw [hwh]; simp⟩
    have hold : ∀ b, b < w.heap.size → w'.heap[b]? = w.heap[b]? := fun b hb => by rw [hwh]; simp [Array.getElem?_push, Nat.ne_of_lt hb]
    have hIn : ∀ j, I w.heap.size j = none := fun j => by
      cases hj : I w.heap.size j with
      | none => rfl
      | some u =>
        have := himm _ _ _ hj
        simp [World.cell?] at this
    have hfr : ∀ {t : Ty} {cs : List Value} {x : t.den} {ow : List Nat}, TRep w I σ t cs x ow → TRep w' (firm s I w.heap.size es.toList ((l.length + m.length) * te.width)) σ t cs x ow := by
      intro t cs x ow hr
      refine hr.frame ?_ (fun b hb => ⟨hold b (hr.own_lt b hb), fun j => firm_out (by have := hr.own_lt b hb; omega) j⟩) (fun _ _ => rfl)
      intro b j u hu
      have hne : b ≠ w.heap.size := fun e => by rw [e, hIn] at hu; simp at hu
      rw [firm_out hne]; exact hu
    have htake : css1.flatten ++ css2.flatten = es.toList.take ((l.length + m.length) * te.width) := by
      rw [hesl, List.take_left' (by rw [List.length_append, hl1, hl2, Nat.add_mul])]
    refine ⟨_, _, w', firm s I w.heap.size es.toList ((l.length + m.length) * te.width), w.heap.size :: (ows1 ++ ows2).flatten, hrun, ?_, ?_, ?_, ?_, ?_⟩
    · refine ⟨_, C, by rw [List.length_append], by rw [List.length_append]; exact hge, by simp [maxLen] at hle; simp [maxI]; omega, .inr ⟨w.heap.size, es, css1 ++ css2, ows1 ++ ows2, rfl, hblk, hesz, by rw [List.flatten_append, htake, List.length_append], rfl,
        (h3.app h2).mono (fun _ _ _ _ _ h => hfr h), ?_, ?_⟩⟩
      · intro j u hj
        cases s with
        | false => simp only [firm, Bool.false_eq_true, if_false] at hj; rw [hIn] at hj; simp at hj
        | true =>
          simp only [firm, if_true, hardened] at hj
          split at hj
          · rename_i hh; exact ⟨by simp, by rw [List.length_append]; exact hh.2⟩
          · rw [hIn] at hj; simp at hj
      · intro hst
        subst hst
        refine ⟨hsp rfl, fun j u hj => ?_⟩
        rw [List.flatten_append, htake, List.getElem?_take] at hj
        split at hj
        · rename_i hlt; simp only [firm, if_true, hardened]; rw [if_pos ⟨trivial, hlt⟩]; exact hj
        · simp at hj
    · refine List.nodup_cons.2 ⟨fun hm => ?_, by rw [List.flatten_append]; exact hnd3⟩
      obtain ⟨o, ho1, ho2⟩ := List.mem_flatten.1 hm
      rcases List.mem_append.1 ho1 with e | e
      · obtain ⟨_, _, _, _, hh⟩ := All3.mem_r h3 o e; have := hh.own_lt _ ho2; omega
      · obtain ⟨_, _, _, _, hh⟩ := All3.mem_r h2 o e; have := hh.own_lt _ ho2; omega
    · intro b hb
      rcases List.mem_cons.1 hb with rfl | hb
      · exact .inr ⟨Nat.le_refl _, by rw [hwh]; simp⟩
      · left
        rw [List.flatten_append] at hb
        rcases List.mem_append.1 hb with e | e
        · exact List.mem_append_left _ (hsub3 b e)
        · exact List.mem_append_right _ e
    · refine ⟨rfl, rfl, rfl, by rw [hwh]; simp, fun b hb _ => ⟨hold b hb, fun j => firm_out (by omega) j⟩, fun b j u hu => ?_⟩
      have hne : b ≠ w.heap.size := fun e => by rw [e, hIn] at hu; simp at hu
      rw [firm_out hne]; exact hu
    · intro b j u hu
      by_cases hbn : b = w.heap.size
      · subst hbn
        cases s with
        | false => simp only [firm, Bool.false_eq_true, if_false] at hu; rw [hIn] at hu; simp at hu
        | true =>
          simp only [firm, if_true, hardened] at hu
          split at hu
          · exact cell_blk' hblk hu
          · rw [hIn] at hu; simp at hu
      · rw [firm_out hbn] at hu
        have h0 := himm b j u hu
        have hlt : b < w.heap.size := by
          simp only [World.cell?] at h0
          cases hbb : w.heap[b]? with
          | none => rw [hbb] at h0; simp at h0
          | some o => exact (Array.getElem?_eq_some_iff.1 hbb).1
        rw [cell_other (hold b hlt)]; exact h0
  obtain ⟨n1, n2, n3⟩ := List.nodup_append.1 hnd
  rcases hv with ⟨rfl, rfl, rfl, rfl⟩ | ⟨b, es, css1, ows1, rfl, hblk, hes, hcs, rfl, h3, hI, hfx⟩
  · by_cases hm : m.length = 0
    · have hm' : m = [] := List.eq_nil_of_length_eq_zero hm
      subst hm'
      have hc2 : css2.flatten = [] := List.eq_nil_of_length_eq_zero (by rw [hl2]; simp)
      rw [hc2] at hs
      refine ⟨none, 0, w, I, [], run_append_none (i := i) hT hu hi hz (by rw [hsz]; exact hs), ⟨none, 0, rfl, by simp, by decide, .inl ⟨rfl, rfl, rfl, rfl⟩⟩, by simp, by simp, Kept.refl _ _ _, himm⟩
    · exact hgrow [] [] [] (by simp; omega) rfl trivial (by simpa using n2) (by simp) (fun w' _ => ⟨by simp [Builtin.lenOf], by simp [Builtin.firstCells]⟩)
  · by_cases hroom : l.length + m.length ≤ cap
    · have hl1 : css1.flatten.length = l.length * te.width := by
        rw [flat_len (fun c hc => by obtain ⟨_, _, hh⟩ := All3.mem_l h3 c hc; exact hh.len), h3.len.1]
      have hfit : l.length * te.width + css2.flatten.length ≤ es.size := by rw [hl2, hes, ← Nat.add_mul]; exact Nat.mul_le_mul_right _ hroom
      obtain ⟨w', es', k1, k2, k3, k4, k5, k6, k7, k8⟩ := run_append_fits (ty := ty) (es := es) (b := b) hT hu hi hz (by rw [hsz]; exact hs) hblk (by rw [hsz]; exact hfit) hone2 hroom
      rw [hsz] at k3
      obtain ⟨nb, n1'⟩ := List.nodup_cons.1 n1
      have htake : css1.flatten ++ css2.flatten = es'.toList.take ((l.length + m.length) * te.width) := by
        rw [k3, splice, ← hcs]
        rw [List.take_left' (by rw [List.length_append, hl1, hl2, Nat.add_mul])]
      have hsz' : es'.size = es.size := by
        have : es'.toList.length = es.toList.length := by rw [k3, splice_len (by simpa using hfit)]
        simpa using this
      have hnb2 : b ∉ ows2.flatten := fun e => n3 b (by simp) b e rfl
      have hle : I.le (firm s I b es'.toList ((l.length + m.length) * te.width)) := by
        intro b' j u hu
        by_cases hbb : b' = b
        · subst hbb
          obtain ⟨hst, hj⟩ := hI j u hu
          subst hst
          obtain ⟨_, hfx⟩ := hfx rfl
          have hj1 : j < css1.flatten.length := by rw [hl1]; exact hj
          have h5 := hfx j _ (List.getElem?_eq_getElem hj1)
          rw [hu] at h5
          injection h5 with h5
          have hlt : j < (l.length + m.length) * te.width := by rw [Nat.add_mul]; omega
          simp only [firm, if_true, hardened]
          rw [if_pos ⟨trivial, hlt⟩]
          have h6 : (css1.flatten ++ css2.flatten)[j]? = some u := by rw [List.getElem?_append_left hj1, List.getElem?_eq_getElem hj1, h5]
          rw [htake, List.getElem?_take, if_pos hlt] at h6
          exact h6
        · rw [firm_out hbb]; exact hu
      have hfr : ∀ {t : Ty} {cs : List Value} {x : t.den} {ow : List Nat}, b ∉ ow → TRep w I σ t cs x ow → TRep w' (firm s I b es'.toList ((l.length + m.length) * te.width)) σ t cs x ow := by
        intro t cs x ow hbo hr
        exact hr.frame hle (fun b' hb' => ⟨k4 b' (fun e => hbo (by rw [← e]; exact hb')), fun j => firm_out (fun e => hbo (by rw [← e]; exact hb')) j⟩) (fun _ _ => rfl)
      refine ⟨_, _, w', firm s I b es'.toList ((l.length + m.length) * te.width), b :: (ows1 ++ ows2).flatten, k1, ?_, ?_, ?_, ?_, ?_⟩
      · refine ⟨_, cap, by rw [List.length_append], by rw [List.length_append]; exact hroom, e3, .inr ⟨b, es', css1 ++ css2, ows1 ++ ows2, rfl, k2, by rw [hsz', hes], by rw [List.flatten_append, htake, List.length_append], rfl, ?_, ?_, ?_⟩⟩
        · refine (h3.app h2).mono fun _ _ c hc _ h => hfr (fun e => ?_) h
          rcases List.mem_append.1 hc with hc | hc
          · exact nb (List.mem_flatten.2 ⟨c, hc, e⟩)
          · exact hnb2 (List.mem_flatten.2 ⟨c, hc, e⟩)
        · intro j u hj
          cases s with
          | false => simp only [firm, Bool.false_eq_true, if_false] at hj; have := (hI j u hj).1; simp at this
          | true =>
            simp only [firm, if_true, hardened] at hj
            split at hj
            · rename_i hh; exact ⟨by simp, by rw [List.length_append]; exact hh.2⟩
            · rename_i hh
              have := (hI j u hj).2
              exact ⟨by simp, by rw [List.length_append, Nat.add_mul]; omega⟩
        · intro hst
          subst hst
          refine ⟨hsp rfl, fun j u hj => ?_⟩
          rw [List.flatten_append, htake, List.getElem?_take] at hj
          split at hj
          · rename_i hlt; simp only [firm, if_true, hardened]; rw [if_pos ⟨trivial, hlt⟩]; exact hj
          · simp at hj
      · rw [List.flatten_append]
        exact List.nodup_cons.2 ⟨fun hm => by rcases List.mem_append.1 hm with e | e; exact nb e; exact hnb2 e, List.nodup_append.2 ⟨n1', n2, fun x hx y hy => n3 x (by simp [hx]) y hy⟩⟩
      · intro b' hb'
        left
        rw [List.flatten_append] at hb'
        simp only [List.cons_append]
        exact hb'
      · exact ⟨k6, k7, k8, by rw [k5]; exact Nat.le_refl _, fun b' hb' hn => ⟨k4 b' (fun e => hn (by simp [e])), fun j => firm_out (fun e => hn (by simp [e])) j⟩, hle⟩
      · intro b' j u hu
        by_cases hbb : b' = b
        · subst hbb
          cases s with
          | false => simp only [firm, Bool.false_eq_true, if_false] at hu; have := (hI j u hu).1; simp at this
          | true =>
            simp only [firm, if_true, hardened] at hu
            split at hu
            · exact cell_blk' k2 hu
            · rename_i hh
              exfalso
              have := (hI j u hu).2
              exact hh ⟨trivial, by rw [Nat.add_mul]; omega⟩
        · rw [firm_out hbb] at hu
          rw [cell_other (k4 b' hbb)]
          exact himm _ _ _ hu
    · have hlies : Lies w (some ⟨b, 0, none⟩) l.length css1.flatten := .inr ⟨b, 0, rfl, fun j u hj => by
        rw [Nat.zero_add]
        rw [hcs, List.getElem?_take] at hj
        split at hj
        · exact cell_blk' hblk hj
        · simp at hj⟩
      have hl1 : css1.flatten.length = l.length * te.width := by
        rw [flat_len (fun c hc => by obtain ⟨_, _, hh⟩ := All3.mem_l h3 c hc; exact hh.len), h3.len.1]
      refine hgrow css1.flatten css1 ows1 (by omega) rfl h3 ?_ (fun b' hb' => by simp only [List.mem_cons]; exact .inr hb') (src_list hl1 hlies)
      obtain ⟨nb, n1'⟩ := List.nodup_cons.1 n1
      exact List.nodup_append.2 ⟨n1', n2, fun x hx y hy => n3 x (by simp [hx]) y hy⟩
end
end Go.Ev

namespace Go.Ev

section
variable {S : Start} {n n' : Nat} {w : World} {I : Imm} {σ : Nat → Value} {H : Heap} {own : Own} {loose : List Nat}
variable {RR : Type} {P : Program} {r : RR} {x : Sem Next} {k : AV → Heap → Option RR}
variable {C : Handler} {o : Oper} {st : St} {a : Act}

theorem asL_ok {t u : Ty} {x : List t.den} {y : List u.den} (h : Ty.asL t u x = some y) : t.may noM u = true ∧ ∃ he : t.erase = u.erase, y = x.map (cast (Ty.den_of_erase he)) := by
  unfold Ty.asL at h
  split at h
  · obtain ⟨hm, he, rfl⟩ := as_some h
    simp only [Ty.may, Bool.and_eq_true] at hm
    simp only [Ty.erase, Ty.list.injEq] at he
    exact ⟨hm.1, he, cast_list (Ty.den_of_erase he) x _⟩
  · obtain ⟨hm, he, rfl⟩ := as_some h
    simp only [Ty.may, Bool.and_eq_true] at hm
    simp only [Ty.erase, Ty.list.injEq] at he
    exact ⟨hm.1, he, cast_list (Ty.den_of_erase he) x _⟩

theorem bytes_all3 : ∀ (l : List UInt8), All3 (TRep w I σ (.int .u8)) (l.map fun b => [Value.int .u8 (b.toNat : Int)]) (l.map fun b => (b.toNat : Int)) (l.map fun _ => [])
  | [] => trivial
  | b :: l => ⟨⟨rfl, rfl, (u8_in b).1, (u8_in b).2⟩, bytes_all3 l⟩

theorem srcl_ok (R : Inv S n w I σ H own loose) {v : AV} {lv : LV} {H1 : Heap} (h : H.srcl v = some (lv, H1)) {u : Value} (hv : AvV w I σ H v u) (hi : ∀ id ∈ v.ids, id < n) :
    ∃ own1 ou css ows, Ghost S n w I σ H own loose I H1 own1 (ou ++ loose) ∧ All3 (TRep w I σ lv.e) css lv.l ows ∧ ows.flatten.Sublist ou ∧ Src P w u lv.l.length lv.e.width css.flatten ∧ ∀ j ∈ lv.e.refs, j < n := by
  unfold Heap.srcl at h
  split at h
  · simp only [Option.some.injEq, Prod.mk.injEq] at h
    obtain ⟨rfl, rfl⟩ := h
    obtain ⟨s, rfl, rfl, hs⟩ := hv.str_inv
    refine ⟨own, [], _, _, Ghost.refl R, bytes_all3 s.data.toList, ?_, ?_, by simp [Ty.refs]⟩
    · rw [flatten_nil (fun o ho => by obtain ⟨_, _, rfl⟩ := List.mem_map.1 ho; rfl)]
      exact List.Sublist.refl _
    · have := src_str (P := P) (w := w) (s := s)
      rw [← bytesOf_len] at this
      have he : (s.data.toList.map fun b => [Value.int .u8 (b.toNat : Int)]).flatten = (bytesOf s).map (.int .u8 ·) := by
        simp only [bytesOf, List.map_map]
        induction s.data.toList with
        | nil => rfl
        | cons b l ih => simp only [List.map_cons, List.flatten_cons, ih]; rfl
      rw [he]
      exact this
  · simp only [Option.bind_eq_some_iff] at h
    obtain ⟨l, h1, h⟩ := h
    have hlt := list_isT h1
    have hvc := hv.one hlt.1 hlt.2
    split at h
    · rename_i hp
      simp only [Option.some.injEq, Prod.mk.injEq] at h
      obtain ⟨rfl, rfl⟩ := h
      obtain ⟨sa, m, c, css, ows, e1, e2, e3, e4, e5⟩ := list_read R h1 hvc
      simp only [List.cons.injEq, and_true] at e1
      refine ⟨own, [], css, ows, Ghost.refl R, e4, ?_, ?_, by rw [pure_refs hp]; simp⟩
      · rw [flatten_nil fun o ho => by obtain ⟨_, _, _, _, hh⟩ := All3.mem_r e4 o ho; exact hh.pure_ow hp]
        exact List.Sublist.refl _
      · rw [e1, e2]
        exact src_list (by rw [flat_len (fun c hc => by obtain ⟨_, _, hh⟩ := All3.mem_l e4 c hc; exact hh.len), e4.len.1, e2]) e5
    · rename_i hp
      split at h
      · rename_i id ver _
        simp only [Option.some.injEq, Prod.mk.injEq] at h
        obtain ⟨rfl, rfl⟩ := h
        simp only [Heap.list, Option.bind_eq_some_iff] at h1
        obtain ⟨⟨ob, t⟩, h1, h2⟩ := h1
        simp only at h2
        split at h2
        · rename_i s e l'
          simp only [Option.some.injEq] at h2
          subst h2
          obtain ⟨sa, m, c, kk, e1, e2⟩ := hvc
          obtain ⟨g1, g2, g3, g4⟩ := hdr_of h1 e2
          obtain ⟨own1, ou, G, hT, hr⟩ := take_ok (H' := H.put id none) R g1 g2 rfl (by simp [Heap.take]) g4
          obtain ⟨a', m', c', css, ows, f1, f2, f3, f4, f5, f6⟩ := vec_lies hT
          simp only [List.cons.injEq, and_true] at f1 e1
          refine ⟨own1, ou, css, ows, G, f4, f6, ?_, hr⟩
          rw [e1, f1]
          have f2' : List.length (α := e.den) l' = m' := f2
          rw [f2']
          exact src_list (by rw [flat_len (fun c hc => by obtain ⟨_, _, hh⟩ := All3.mem_l f4 c hc; exact hh.len), f4.len.1]; exact congrArg (· * e.width) f2') f5
        · simp at h2
      · simp at h

theorem zc_ok {e : TypeId} {m : Nat} (h : zcOk P e m = true) : ∃ i z, P.info? e = some i ∧ i.size = m ∧ i.bytes ≠ 0 ∧ i.zero = some z ∧ z.cells.size = m ∧ P.bytesOf e = i.bytes := by
  unfold zcOk at h
  split at h
  · rename_i i hi
    simp only [Bool.and_eq_true, beq_iff_eq, bne_iff_ne] at h
    obtain ⟨⟨h1, h2⟩, h3⟩ := h
    split at h3
    · rename_i z hz
      exact ⟨i, z, hi, h1, h2, hz, by simpa using h3, by simp [Program.bytesOf, hi]⟩
    · simp at h3
  · simp at h

theorem appTy_ok {ats : Array TypeId} (h : appTy P ats = true) : ∀ U, ats[1]? = some U → P.underlying U = some .string ∨ ∃ e, P.underlying U = some (.slice e) := by
  intro U hU
  unfold appTy at h
  rw [hU] at h
  simp only at h
  split at h
  · left; assumption
  · right; exact ⟨_, by assumption⟩
  · simp at h

/-- A new slice of one's own, of which some may be fixed. -/
theorem new_vec' {ou : List Nat} (R : Inv S n w I σ H own (ou ++ loose)) {w' : World} {I' : Imm} {t : Ty} {x : t.den} {own1 : List Nat} {a : Option Addr} {l c : Nat} (hn : n < n')
    (hT : TRep w' I' σ t [.slice a l c] x own1) (hh : t.handle = true) (hK : Kept w w' I I' (fun b => b ∈ ou)) (himm : ∀ b j v, I' b j = some v → w'.cell? ⟨b, j, none⟩ = some v)
    (hnd : own1.Nodup) (hsub : ∀ b ∈ own1, b ∈ ou ∨ (w.heap.size ≤ b ∧ b < w'.heap.size)) (hrefs : ∀ j ∈ t.refs, j < n) (hS : ∀ j o, S.H j = some o → j < n) :
    ∃ σ' own', Inv S n' w' I' σ' (H.put n (some ⟨t, x, []⟩)) own' loose ∧ Pres n w I σ H w' I' σ' (H.put n (some ⟨t, x, []⟩)) ∧
      AvV w' I' σ' (H.put n (some ⟨t, x, []⟩)) (.slw n [] 0) (.slice a l c) := by
  obtain ⟨l1, l2, l3⟩ := List.nodup_append.1 R.lnd
  have hnew := R.new (t := t) (x := x) (hv := .slice a l c) (own1 := own1) (loose1 := loose) (w' := w') (I' := I') (Nat.le_refl n) hn (sig_frame hT hrefs (Nat.le_refl n))
    (List.nodup_append.2 ⟨hnd, l2, fun a ha b hb e => by
      subst e
      rcases hsub a ha with h | h
      · exact l3 a h a hb rfl
      · have := (R.lown a (by simp [hb])).2; omega⟩)
    (fun b hb => by
      rcases List.mem_append.1 hb with hb | hb
      · rcases hsub b hb with h | h
        · exact .inl (by simp [h])
        · exact .inr h
      · exact .inl (by simp [hb]))
    (hK.mono fun b hb => by simp [hb]) himm hrefs hS
  refine ⟨_, _, hnew.1, hnew.2, ?_⟩
  refine AvV.mk rfl rfl ⟨a, l, c, t.hk, rfl, fun ob hob => ?_⟩ (fun c => by simp)
  rw [put_self] at hob
  injection hob with hob
  subst hob
  refine ⟨Nat.zero_le _, fun _ u hu hh => ?_⟩
  simp only [Ty.get, Option.some.injEq] at hu
  subst hu
  exact ⟨inb_nil _ _, rfl, ⟨false, none, 0, [.slice a l c]⟩, by simp [spot_nil], rfl⟩

theorem run_app_op {ats : Array TypeId} {ty : TypeId} {cn : Array Bool} {y z : Operand} {u : Value} {w' : World} (h : (Builtin.append_ ats ty #[a.eval y, a.eval z]).run P w = .ok u w') :
    (builtin .append ats ty cn (#[y, z].map a.eval)).run P w = .ok (.value u) w' := by
  simp [builtin, h]

theorem append_ok {c : Call} (R : Inv S n w I σ st.heap own loose) (T : TRel n w I σ st a) (hn : n < n') (hS : ∀ j o, S.H j = some o → j < n) (ho : o.op = .call c) (hb : c.callee = .builtin .append) (h : evOp P C o.op o.type st n k = some r) :
    Done P S n n' w I σ st.heap k r (execOp a.eval o) := by
  rw [ho] at h
  simp only [evOp, evCall, hb] at h
  obtain ⟨cn, hrun⟩ := run_builtin (P := P) (w := w) (a := a) ho hb
  split at h
  · rename_i t s x hat hargs
    obtain ⟨y, z, hy, hz, hz'⟩ := args_two hargs
    obtain ⟨hv, hi⟩ := eval_ok T y
    obtain ⟨hv2, hi2⟩ := eval_ok T z
    rw [hz] at hv hi
    rw [hz'] at hv2 hi2
    split at h
    · rename_i e hu
      split at h
      · rename_i hat2
        replace hat2 := appTy_ok hat2
        unfold evAppend at h
        split at h
        · -- onto nil
          simp only [Option.bind_eq_some_iff] at h
          obtain ⟨⟨v, H1⟩, h1, h⟩ := h
          simp only at h
          split at h
          · rename_i hzc
            obtain ⟨i, zv, k1, k2, k3, k4, k5, k6⟩ := zc_ok hzc
            obtain ⟨h0, h⟩ := grd_some h
            rw [iLe_eq, imul_eq, ln_eq, k6] at h0
            obtain ⟨own1, ou, css, ows, G, q1, q2, q3, q4⟩ := srcl_ok (P := P) R h1 hv2 hi2
            have R1 := G.inv
            obtain ⟨l1, l2, l3⟩ := List.nodup_append.1 R1.lnd
            have hnil : TRep w I σ (.vec false v.e) [.slice none 0 0] ([] : List v.e.den) [] := ⟨none, 0, rfl, by simp, by decide, .inl ⟨rfl, rfl, rfl, rfl⟩⟩
            obtain ⟨a', c', w', I', own2, f1, f2, f3, f4, f5, f6⟩ := append_vec (P := P) (ty := o.type) (l := ([] : List v.e.den)) (m := v.l) R1.rel.imm hat hu k1 k2 k4 k5 k3 hat2 hnil q1 (by simpa using q2.nodup l1) (by simp) q3
              (by rw [List.length_nil, Nat.zero_add]; exact Int.ofNat_le.1 (by rw [Int.natCast_mul]; exact h0))
            have hsub : ∀ b ∈ own2, b ∈ ou ∨ (w.heap.size ≤ b ∧ b < w'.heap.size) := fun b hb => by
              rcases f4 b hb with e | e
              · exact .inl (q2.subset (by simpa using e))
              · exact .inr e
            obtain ⟨σ', own', k7, k8, k9⟩ := new_vec' (n' := n') R1 hn f2 rfl (f5.mono fun b hb => by simp at hb) f6 f3 hsub q4 hS
            rw [List.nil_append] at k7 k8 k9
            have hnv := hv.nsl_inv
            rw [← hnv] at f1
            exact .value (by rw [hrun, hy]; exact run_app_op f1) ⟨_, I', σ', _, own', loose, h, k7, G.pres.trans k8, k9, by simp [AV.ids]; omega⟩
          · simp at h
        · -- onto a slice
          rename_i id p ver
          simp only [Option.bind_eq_some_iff] at h
          obtain ⟨⟨v, H1⟩, h1, ⟨ob, tt⟩, h2, h⟩ := h
          simp only at h2 h
          split at h
          · rename_i sh te l
            split at h
            · rename_i hzc
              simp only [Bool.and_eq_true, Bool.or_eq_true, Bool.not_eq_true'] at hzc
              obtain ⟨i, zv, k1, k2, k3, k4, k5, k6⟩ := zc_ok hzc.1
              simp only [Option.bind_eq_some_iff] at h
              obtain ⟨m, hm, H2, ht, h⟩ := h
              obtain ⟨h0, h⟩ := grd_some h
              rw [iLe_eq, imul_eq, iadd_eq, ln_eq, ln_eq, k6] at h0
              obtain ⟨own1, ou1, css, ows, G, q1, q2, q3, q4⟩ := srcl_ok (P := P) R h1 hv2 hi2
              have R1 := G.inv
              obtain ⟨sa, sl, sc, kk, e1, e2⟩ := (hv.pres G.pres hi).one rfl rfl
              simp only [List.cons.injEq, and_true] at e1
              obtain ⟨g1, g2, g3, g4⟩ := hdr_of h2 e2
              obtain ⟨own2, ou2, G2, hT2, hr2⟩ := take_ok R1 g1 g2 rfl ht g4
              have R2 := G2.inv
              obtain ⟨hmay, her, rfl⟩ := asL_ok hm
              obtain ⟨l1, l2, l3⟩ := List.nodup_append.1 R2.lnd
              obtain ⟨l4, l5, l6⟩ := List.nodup_append.1 l2
              obtain ⟨I1, ows', p1, p2, p3⟩ := harden_all (w := w) (σ := σ) (f := cast (Ty.den_of_erase her)) (fun I c x o hh hoo => TRep.as (m := noM) noM_ok hmay her I c x o hh hoo) css v.l ows I q1 (q2.nodup l4)
              have hows : ∀ b ∈ ows.flatten, b ∉ ou2 := fun b hb hb' => l3 b hb' b (by simp [q2.subset hb]) rfl
              have hT3 : TRep w I1 σ (.vec sh te) [.slice sa sl sc] l ou2 := hT2.frame p1.le (fun b hb => ⟨rfl, fun j => p1.out b (fun e => hows b e hb) j⟩) (fun _ _ => rfl)
              have himm1 : ∀ b j u, I1 b j = some u → w.cell? ⟨b, j, none⟩ = some u := fun b j u hu => by
                rcases p1.imm b j u hu with e | e
                · exact R2.rel.imm b j u e
                · exact e
              have hlen : (v.l.map (cast (Ty.den_of_erase her))).length = v.l.length := List.length_map _
              have hte : te.width = v.e.width := may_width hmay
              obtain ⟨a', c', w', I', own3, f1, f2, f3, f4, f5, f6⟩ := append_vec (P := P) (ty := o.type) (l := l) (m := v.l.map (cast (Ty.den_of_erase her))) himm1 hat hu k1 k2 k4 k5 k3 hat2 hT3 p2
                (List.nodup_append.2 ⟨l1, p3.nodup (q2.nodup l4), fun b hb d hd e => l3 b hb d (by simp [q2.subset (p3.subset hd)]) e⟩)
                (fun e => by rcases hzc.2 with h | h; rw [h] at e; simp at e; exact h) (by rw [hlen, hte]; exact q3) (by rw [hlen]; exact Int.ofNat_le.1 (by rw [Int.natCast_mul, Int.natCast_add]; exact h0))
              have hsub : ∀ b ∈ own3, b ∈ ou2 ++ ou1 ∨ (w.heap.size ≤ b ∧ b < w'.heap.size) := fun b hb => by
                rcases f4 b hb with e | e
                · rcases List.mem_append.1 e with e | e
                  · exact .inl (by simp [e])
                  · exact .inl (by simp [q2.subset (p3.subset e)])
                · exact .inr e
              have hK : Kept w w' I I' (fun b => b ∈ ou2 ++ ou1) := by
                refine ⟨f5.os, f5.tape, f5.output, f5.size, fun b hb hn => ?_, Imm.le_trans p1.le f5.le⟩
                obtain ⟨m1, m2⟩ := f5.blk b hb (fun e => hn (by simp [e]))
                exact ⟨m1, fun j => by rw [m2, p1.out b (fun e => hn (by simp [q2.subset e]))]⟩
              obtain ⟨σ', own', k7, k8, k9⟩ := new_vec' (n' := n') (ou := ou2 ++ ou1) (by rw [List.append_assoc]; exact R2) hn f2 rfl hK f6 f3 hsub hr2 hS
              rw [app_eq] at h
              rw [← e1] at f1
              exact .value (by rw [hrun, hy]; exact run_app_op f1) ⟨_, I', σ', _, own', loose, h, k7, (G.pres.trans G2.pres).trans k8, k9, by simp [AV.ids]; omega⟩
            · simp at h
          · simp at h
        · simp at h
      · simp at h
    · simp at h
  · simp at h
end
end Go.Ev

