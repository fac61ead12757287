/- The net's functions, in plain words. -/
import Derived.Test.YtocefhfihimjdaaNet
import Derived.Test.YtocefhfihimjdaaE13
set_option linter.unusedVariables false
namespace Go.Proofs.Ytocefhfihimjdaa
open Go.Ev

theorem br_not {R : Type} {p : Prop} [Decidable p] {x y : R} : br (!decide p) x y = if p then y else x := by rw [br_eq]; by_cases h : p <;> simp [h]
theorem rd_get {α : Type} [Inhabited α] {l : List α} {i : Nat} (h : i < l.length) : rd l (i : Int) = l[i] := by rw [rd_eq]; simp [h]

theorem Clone_ok {b : List Int} (h : b.length ≤ 1000) : F.Clone b = some b := by
  unfold F.Clone Clone'
  have hg : iLe (imul (iadd (ln (α := Int) []) (ln b)) 1) 140737488355328 := by
    rw [iLe_eq, imul_eq, iadd_eq, ln_eq, ln_eq]; simp; omega
  rw [grd_yes hg, app_eq, bEq_eq, ln_eq, br_if]
  split
  · rename_i h0
    have : b = [] := List.eq_nil_of_length_eq_zero (by omega)
    subst this
    exact both_self _
  · rfl

theorem own_ok {f : fl} (h : f.2.1.length ≤ 1000) : F.own f = some (f.1, f.2.2, f.2.1) := by
  unfold F.own own'
  rw [bnd_yes (Clone_ok h)]

theorem Send_full {f : fl} {l : List fl} {n : Int} (h : 256 ≤ l.length) : F.Send (f, l, n) = some (7, l, w64 (n + 1)) := by
  show Send' f l n = _
  unfold Send'
  rw [bLe_eq, ln_eq, br_if, if_pos (by omega), iadd_eq]

theorem Send_ok {f : fl} {l : List fl} {n : Int} (hf : f.2.1.length ≤ 1000) (h : l.length < 256) : F.Send (f, l, n) = some (0, l ++ [f], n) := by
  show Send' f l n = _
  unfold Send'
  rw [bLe_eq, ln_eq, br_if, if_neg (by omega), bnd_yes (own_ok hf)]
  simp only
  rw [grd_yes, app_eq]
  simp only [iLe_eq, imul_eq, iadd_eq, ln_eq, List.length_cons, List.length_nil]
  omega

theorem Look_no {k : Int} {l : List fl} {n : Int} (h : ¬ (0 ≤ k ∧ k < l.length)) : F.Look (k, l, n) = some (0, false, 8, (l, n), []) := by
  show Look' k l n = _
  unfold Look'
  rw [bLt_eq, br_if, bLe_eq, br_if, ln_eq]
  split
  · rfl
  · rw [if_pos (by omega)]

theorem Look_ok {k : Int} {l : List fl} {n : Int} (h0 : 0 ≤ k) (h1 : k < l.length) (hf : ∀ f ∈ l, f.2.1.length ≤ 1000) : F.Look (k, l, n) = some ((rd l k).1, (rd l k).2.2, 0, (l, n), (rd l k).2.1) := by
  show Look' k l n = _
  unfold Look'
  rw [bLt_eq, br_if, bLe_eq, br_if, ln_eq, if_neg (by omega), if_neg (by omega), grd_yes (by rw [iLe_eq]; exact h0), grd_yes (by rw [iLt_eq]; exact h1)]
  have : rd l k ∈ l := by
    rw [rd_eq, List.getD_eq_getElem?_getD, List.getElem?_eq_getElem (by omega)]
    simp
  rw [bnd_yes (own_ok (hf _ this))]

/-- What is kept of a list. -/
def keepI {α : Type} (p : Nat → α → Bool) : Nat → List α → List α
  | _, [] => []
  | i, a :: l => if p i a then a :: keepI p (i + 1) l else keepI p (i + 1) l

theorem keepI_len {α : Type} (p : Nat → α → Bool) : ∀ (i : Nat) (l : List α), (keepI p i l).length ≤ l.length
  | _, [] => Nat.le_refl _
  | i, a :: l => by
    simp only [keepI]
    split
    · simp; exact keepI_len p (i + 1) l
    · have := keepI_len p (i + 1) l; simp; omega

theorem keepI_app {α : Type} (p : Nat → α → Bool) : ∀ (i : Nat) (l m : List α), keepI p i (l ++ m) = keepI p i l ++ keepI p (i + l.length) m
  | _, [], m => by simp [keepI]
  | i, a :: l, m => by
    simp only [List.cons_append, keepI, List.length_cons]
    rw [keepI_app p (i + 1) l m, show i + 1 + l.length = i + (l.length + 1) by omega]
    split <;> simp

theorem keepI_take {α : Type} (p : Nat → α → Bool) {l : List α} {i : Nat} (h : i < l.length) : keepI p 0 (l.take (i + 1)) = if p i l[i] then keepI p 0 (l.take i) ++ [l[i]] else keepI p 0 (l.take i) := by
  rw [List.take_succ_eq_append_getElem h, keepI_app]
  simp only [List.length_take, Nat.min_eq_left (Nat.le_of_lt h), Nat.zero_add, keepI]
  split <;> simp

theorem Take_ok {k : Int} {l : List fl} {n : Int} (h0 : 0 ≤ k) (h1 : k < l.length) (hl : l.length ≤ 100000) (hf : ∀ f ∈ l, f.2.1.length ≤ 1000) :
    F.Take (k, l, n) = some ((rd l k).1, (rd l k).2.2, 0, (keepI (fun i _ => decide ((i : Int) ≠ k)) 0 l, n), (rd l k).2.1) := by
  show Take' k l n = _
  unfold Take'
  rw [bnd_yes (Look_ok h0 h1 hf)]
  simp only
  rw [bEq_eq, br_if, if_pos rfl, grd_yes (by rw [iLe_eq]; exact Int.le_refl _), grd_yes (by rw [iLe_eq, ln_eq]; omega), grd_yes (by rw [iLe_eq, imul_eq, ln_eq]; omega)]
  obtain ⟨r, hr, hq⟩ := loop_inv (S := Int × Int × Int × List fl × List fl × Int) (R := Int × Int × Int × List fl × List fl × Int)
    (f := fun x => br (bLt x.2.1 x.1)
                    (grd (iLe 0 x.2.1)
                      (grd (iLt x.2.1 (ln x.2.2.2.2.1))
                        (br (bNot (bEq x.2.1 x.2.2.1))
                          (grd (iLe (imul (iadd (ln x.2.2.2.1) (ln [rd x.2.2.2.2.1 x.2.1])) 40) 140737488355328)
                            (some
                              (Sum.inl
                                (x.1, w64 (iadd x.2.1 1), x.2.2.1, app x.2.2.2.1 [rd x.2.2.2.2.1 x.2.1], x.2.2.2.2))))
                          (some (Sum.inl (x.1, w64 (iadd x.2.1 1), x.2.2.1, x.2.2.2.1, x.2.2.2.2))))))
                    (some (Sum.inr (x.1, x.2.1, x.2.2.1, x.2.2.2.1, x.2.2.2.2))))
    (fun s => ∃ i : Nat, i ≤ l.length ∧ s = ((l.length : Int), (i : Int), k, keepI (fun i _ => decide ((i : Int) ≠ k)) 0 (l.take i), l, n)) (fun s => l.length - s.2.1.toNat)
    (fun r => r.2.2.2.1 = keepI (fun i _ => decide ((i : Int) ≠ k)) 0 l ∧ r.2.2.2.2.2 = n) (by
      rintro s ⟨i, hi, rfl⟩
      simp only
      rw [bLt_eq, br_if]
      by_cases hlt : i < l.length
      · rw [if_pos (by omega), grd_yes (by rw [iLe_eq]; omega), grd_yes (by rw [iLt_eq, ln_eq]; omega), bNot_eq, bEq_eq, br_not, iadd_eq, w64_id (by omega) (by omega), rd_get hlt, app_eq]
        have hk := keepI_len (fun i _ => decide ((i : Int) ≠ k)) 0 (l.take i)
        rw [List.length_take] at hk
        have htk := keepI_take (fun (i : Nat) (_ : fl) => decide ((i : Int) ≠ k)) hlt
        by_cases he : (i : Int) = k
        · rw [if_pos he]
          refine .inl ⟨_, rfl, ⟨i + 1, by omega, ?_⟩, by simp; omega⟩
          rw [htk]; simp [he]
        · rw [if_neg he, grd_yes (by simp only [iLe_eq, imul_eq, iadd_eq, ln_eq, List.length_cons, List.length_nil]; omega)]
          refine .inl ⟨_, rfl, ⟨i + 1, by omega, ?_⟩, by simp; omega⟩
          rw [htk]; simp [he]
      · rw [if_neg (by omega)]
        have : i = l.length := by omega
        subst this
        exact .inr ⟨_, rfl, by simp, rfl⟩)
    ((l.length : Int), 0, k, [], l, n) ⟨0, by omega, by simp [keepI]⟩
  rw [ln_eq, show rep (0 : Int) ((0, [], false) : fl) = [] by rw [rep_eq]; rfl]
  refine (bnd_yes hr).trans ?_
  rw [hq.1, hq.2]

theorem Clear_ok {k : Int} {l : List fl} {n : Int} (hl : l.length ≤ 100000) :
    F.Clear (k, l, n) = some ((l.length : Int) - ((keepI (fun _ f => decide (f.1 ≠ k)) 0 l).length : Int), keepI (fun _ f => decide (f.1 ≠ k)) 0 l, n) := by
  show Clear' k l n = _
  unfold Clear'
  rw [grd_yes (by rw [iLe_eq]; exact Int.le_refl _), grd_yes (by rw [iLe_eq, ln_eq]; omega), grd_yes (by rw [iLe_eq, imul_eq, ln_eq]; omega)]
  obtain ⟨r, hr, hq⟩ := loop_inv (S := Int × Int × Int × List fl × List fl × Int) (R := Int × Int × Int × List fl × List fl × Int)
    (f := fun x => br (bLt x.2.1 x.1)
                (grd (iLe 0 x.2.1)
                  (grd (iLt x.2.1 (ln x.2.2.2.2.1))
                    (br (bNot (bEq (rd x.2.2.2.2.1 x.2.1).1 x.2.2.1))
                      (grd (iLe (imul (iadd (ln x.2.2.2.1) (ln [rd x.2.2.2.2.1 x.2.1])) 40) 140737488355328)
                        (some
                          (Sum.inl
                            (x.1, w64 (iadd x.2.1 1), x.2.2.1, app x.2.2.2.1 [rd x.2.2.2.2.1 x.2.1], x.2.2.2.2))))
                      (some (Sum.inl (x.1, w64 (iadd x.2.1 1), x.2.2.1, x.2.2.2.1, x.2.2.2.2))))))
                (some (Sum.inr (x.1, x.2.1, x.2.2.1, x.2.2.2.1, x.2.2.2.2))))
    (fun s => ∃ i : Nat, i ≤ l.length ∧ s = ((l.length : Int), (i : Int), k, keepI (fun _ f => decide (f.1 ≠ k)) 0 (l.take i), l, n)) (fun s => l.length - s.2.1.toNat)
    (fun r => r.2.2.2.1 = keepI (fun _ f => decide (f.1 ≠ k)) 0 l ∧ r.2.2.2.2.2 = n) (by
      rintro s ⟨i, hi, rfl⟩
      simp only
      rw [bLt_eq, br_if]
      by_cases hlt : i < l.length
      · rw [if_pos (by omega), grd_yes (by rw [iLe_eq]; omega), grd_yes (by rw [iLt_eq, ln_eq]; omega), bNot_eq, bEq_eq, br_not, iadd_eq, w64_id (by omega) (by omega), rd_get hlt, app_eq]
        have hk := keepI_len (fun _ (f : fl) => decide (f.1 ≠ k)) 0 (l.take i)
        rw [List.length_take] at hk
        have htk := keepI_take (fun (_ : Nat) (f : fl) => decide (f.1 ≠ k)) hlt
        by_cases he : l[i].1 = k
        · rw [if_pos he]
          refine .inl ⟨_, rfl, ⟨i + 1, by omega, ?_⟩, by simp; omega⟩
          rw [htk]; simp [he]
        · rw [if_neg he, grd_yes (by simp only [iLe_eq, imul_eq, iadd_eq, ln_eq, List.length_cons, List.length_nil]; omega)]
          refine .inl ⟨_, rfl, ⟨i + 1, by omega, ?_⟩, by simp; omega⟩
          rw [htk]; simp [he]
      · rw [if_neg (by omega)]
        have : i = l.length := by omega
        subst this
        exact .inr ⟨_, rfl, by simp, rfl⟩)
    ((l.length : Int), 0, k, [], l, n) ⟨0, by omega, by simp [keepI]⟩
  rw [ln_eq, show rep (0 : Int) ((0, [], false) : fl) = [] by rw [rep_eq]; rfl]
  refine (bnd_yes hr).trans ?_
  rw [hq.1, hq.2, isub_eq, ln_eq]
  have hk := keepI_len (fun _ (f : fl) => decide (f.1 ≠ k)) 0 l
  rw [w64_id (by omega) (by omega)]

theorem Twice_full {k : Int} {l : List fl} {n : Int} (h0 : 0 ≤ k) (h1 : k < l.length) (hf : ∀ f ∈ l, f.2.1.length ≤ 1000) (h : 256 ≤ l.length) : F.Twice (k, l, n) = some (7, l, w64 (n + 1)) := by
  show Twice' k l n = _
  unfold Twice'
  rw [bnd_yes (Look_ok h0 h1 hf)]
  simp only
  rw [bEq_eq, bNot_eq, br_not, if_pos rfl, bnd_yes (Send_full h)]

theorem Hurt_ok {k m b : Int} {l : List fl} {n : Int} (h0 : 0 ≤ k) (h1 : k < l.length) (hf : ∀ f ∈ l, f.2.1.length ≤ 1000) :
    F.Hurt (k, m, b, l, n) = if (rd l k).2.2 = true then some (9, l, n) else if m < 0 ∨ ((rd l k).2.1.length : Int) ≤ m ∨ b < 1 ∨ 255 < b then some (2, l, n)
      else some (0, wr l k ((rd l k).1, wr (rd l k).2.1 m (bitK .xor .u8 (rd (rd l k).2.1 m) (wrapK' .u8 b)), true), n) := by
  show Hurt' k m b l n = _
  unfold Hurt'
  rw [bnd_yes (Look_ok h0 h1 hf)]
  simp only
  rw [bEq_eq, bNot_eq, br_not, if_pos rfl]
  rw [br_eq (rd l k).2.2]
  split
  · rfl
  · simp only [bLt_eq, bLe_eq, br_if, ln_eq]
    by_cases a1 : m < 0
    · rw [if_pos a1, if_pos (.inl a1)]
    rw [if_neg a1]
    by_cases a2 : ((rd l k).2.1.length : Int) ≤ m
    · rw [if_pos a2, if_pos (.inr (.inl a2))]
    rw [if_neg a2]
    by_cases a3 : b < 1
    · rw [if_pos a3, if_pos (.inr (.inr (.inl a3)))]
    rw [if_neg a3]
    by_cases a4 : 255 < b
    · rw [if_pos a4, if_pos (.inr (.inr (.inr a4)))]
    rw [if_neg a4, if_neg (by omega)]
    rw [grd_yes (by rw [iLe_eq]; omega), grd_yes (by rw [iLt_eq]; omega), grd_yes (by rw [iLe_eq]; omega), grd_yes (by rw [iLt_eq]; omega), grd_yes (by rw [iLe_eq]; exact h0), grd_yes (by rw [iLt_eq]; exact h1)]

theorem Len_ok {l : List fl} {n : Int} : F.Len (l, n) = some ((l.length : Int), l, n) := by
  show Len' l n = _
  unfold Len'
  rw [ln_eq]
theorem Lost_ok {l : List fl} {n : Int} : F.Lost (l, n) = some (n, l, n) := rfl

/-- What is sent, one after the other. -/
def sent (b : Int → List Int) (j : Nat) : List fl := (List.range j).map fun (i : Nat) => ((i : Int), b i, false)
theorem sent_len (b : Int → List Int) (j : Nat) : (sent b j).length = j := by simp [sent]
theorem sent_succ (b : Int → List Int) (j : Nat) : sent b (j + 1) = sent b j ++ [((j : Int), b j, false)] := by simp [sent, List.range_succ]
theorem sent_mem {b : Int → List Int} (hb : ∀ i, (b i).length ≤ 1000) {j : Nat} : ∀ f ∈ sent b j, f.2.1.length ≤ 1000 := by
  intro f hf
  simp only [sent, List.mem_map] at hf
  obtain ⟨i, _, rfl⟩ := hf
  exact hb _

theorem awake_ok : F.awake () = some true := by
  show awake' = _
  unfold awake'
  obtain ⟨r, hr, hq⟩ := loop_inv (S := Int × List fl × Int) (R := (Int × List fl × Int) ⊕ Bool)
    (f := fun x => br (bLt x.1 3)
        (bnd (F.Send ((x.1, [wrapK' IntKind.u8 x.1], false), x.2)) fun z ↦
          br (bNot (bEq z.1 0)) (some (Sum.inr (Sum.inr false))) (some (Sum.inl (w64 (iadd x.1 1), z.2))))
        (some (Sum.inr (Sum.inl (x.1, x.2)))))
    (fun s => ∃ j : Nat, j ≤ 3 ∧ s = ((j : Int), sent (fun i => [wrapK' .u8 i]) j, 0)) (fun s => 3 - s.1.toNat) (fun r => r = .inl (3, sent (fun i => [wrapK' .u8 i]) 3, 0)) (by
      rintro s ⟨j, hj, rfl⟩
      simp only
      rw [bLt_eq, br_if]
      by_cases hlt : j < 3
      · rw [if_pos (by omega), bnd_yes (Send_ok (by simp) (by rw [sent_len]; omega))]
        simp only
        rw [bEq_eq, bNot_eq, br_not, if_pos rfl, iadd_eq, w64_id (by omega) (by omega)]
        exact .inl ⟨_, rfl, ⟨j + 1, by omega, by rw [sent_succ]; rfl⟩, by simp; omega⟩
      · rw [if_neg (by omega)]
        have : j = 3 := by omega
        subst this
        exact .inr ⟨_, rfl, rfl⟩)
    (0, [], 0) ⟨0, by omega, rfl⟩
  subst hq
  refine (bnd_yes hr).trans ?_
  simp only
  have hs : sent (fun i => [wrapK' .u8 i]) 3 = [(0, [wrapK' .u8 0], false), (1, [wrapK' .u8 1], false), (2, [wrapK' .u8 2], false)] := rfl
  rw [hs]
  have r1 : rd ([(0, [wrapK' .u8 0], false), (1, [wrapK' .u8 1], false), (2, [wrapK' .u8 2], false)] : List fl) 1 = (1, [wrapK' .u8 1], false) := by rw [rd_eq]; rfl
  rw [bnd_yes (Take_ok (by decide) (by decide) (by decide) (by simp))]
  simp only
  rw [r1, bEq_eq, br_if, if_pos rfl, bEq_eq, br_if, if_pos rfl]
  have hk : keepI (fun (i : Nat) (_ : fl) => decide ((i : Int) ≠ 1)) 0 [(0, [wrapK' .u8 0], false), (1, [wrapK' .u8 1], false), (2, [wrapK' .u8 2], false)] = [(0, [wrapK' .u8 0], false), (2, [wrapK' .u8 2], false)] := rfl
  rw [hk, bnd_yes Len_ok]
  simp only
  rw [bEq_eq, br_if, if_pos (by rfl)]
  have r0 : rd ([(0, [wrapK' .u8 0], false), (2, [wrapK' .u8 2], false)] : List fl) 0 = (0, [wrapK' .u8 0], false) := by rw [rd_eq]; rfl
  have h1 := Hurt_ok (k := 0) (m := 0) (b := 3) (l := [(0, [wrapK' .u8 0], false), (2, [wrapK' .u8 2], false)]) (n := 0) (by decide) (by decide) (by simp)
  rw [r0] at h1
  rw [if_neg (by simp), if_neg (by simp)] at h1
  rw [bnd_yes h1]
  simp only
  rw [bEq_eq, br_if, if_pos rfl]
  have hql : (wr [wrapK' .u8 0] 0 (bitK .xor .u8 (rd [wrapK' .u8 0] 0) (wrapK' .u8 3))).length = 1 := by rw [wr_len]; rfl
  generalize wr [wrapK' .u8 0] 0 (bitK .xor .u8 (rd [wrapK' .u8 0] 0) (wrapK' .u8 3)) = q at hql ⊢
  have hw : wr ([(0, [wrapK' .u8 0], false), (2, [wrapK' .u8 2], false)] : List fl) 0 (0, q, true) = [(0, q, true), (2, [wrapK' .u8 2], false)] := by rw [wr_eq]; rfl
  rw [hw]
  have h2 := Hurt_ok (k := 0) (m := 0) (b := 3) (l := [(0, q, true), (2, [wrapK' .u8 2], false)]) (n := 0) (by decide) (by simp) (by simp; omega)
  have r2 : rd ([(0, q, true), (2, [wrapK' .u8 2], false)] : List fl) 0 = (0, q, true) := by rw [rd_eq]; rfl
  rw [r2, if_pos rfl] at h2
  rw [bnd_yes h2, bEq_eq]
  rfl
end Go.Proofs.Ytocefhfihimjdaa
