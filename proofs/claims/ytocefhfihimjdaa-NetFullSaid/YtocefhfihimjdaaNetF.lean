/- NetFull: true, whatever it is told. -/
import Derived.Test.YtocefhfihimjdaaNetP
set_option linter.unusedVariables false
namespace Go.Proofs.Ytocefhfihimjdaa
open Go.Ev

theorem keep7 (b : Int → List Int) : ∀ j : Nat, (keepI (fun _ (f : fl) => decide (f.1 ≠ 7)) 0 (sent b j)).length = if j ≤ 7 then j else j - 1
  | 0 => by simp [sent, keepI]
  | j + 1 => by
    have hk : ∀ i, (keepI (fun _ (f : fl) => decide (f.1 ≠ 7)) i [((j : Int), b j, false)]).length = if j = 7 then 0 else 1 := fun i => by
      unfold keepI
      by_cases h7 : j = 7
      · subst h7; rfl
      · rw [if_pos (by simp only [decide_eq_true_eq]; omega), if_neg h7]; rfl
    rw [sent_succ, keepI_app, List.length_append, keep7 b j, hk]
    split <;> split <;> split <;> omega

theorem keep_sub {α : Type} (p : Nat → α → Bool) : ∀ (i : Nat) (l : List α), ∀ x ∈ keepI p i l, x ∈ l
  | _, [], x, h => by simp [keepI] at h
  | i, a :: l, x, h => by
    simp only [keepI] at h
    split at h
    · rcases List.mem_cons.1 h with rfl | h
      · simp
      · exact List.mem_cons_of_mem _ (keep_sub p (i + 1) l x h)
    · exact List.mem_cons_of_mem _ (keep_sub p (i + 1) l x h)

theorem LookN_ok {k : Int} : F.LookN k = some ((0, [], false), 1) := rfl
theorem TakeN_ok {k : Int} : F.TakeN k = some ((0, [], false), 1) := by
  show TakeN' k = _
  unfold TakeN'
  rw [bnd_yes LookN_ok]
  simp only
  rw [bEq_eq, br_if, if_neg (by decide)]
theorem TwiceN_ok {k : Int} : F.TwiceN k = some 1 := by
  show TwiceN' k = _
  unfold TwiceN'
  rw [bnd_yes LookN_ok]
  simp only
  rw [bEq_eq, bNot_eq, br_not, if_neg (by decide)]
theorem HurtN_ok {k m b : Int} : F.HurtN (k, m, b) = some 1 := by
  show HurtN' k m b = _
  unfold HurtN'
  rw [bnd_yes LookN_ok]
  simp only
  rw [bEq_eq, bNot_eq, br_not, if_neg (by decide)]
theorem SwapN_ok {k : Int} : F.SwapN (k, k) = some 1 := by
  show SwapN' k k = _
  unfold SwapN'
  have hr : loopR (S := Int × Int × Int × Int × List Int) (R := (Int × Int × Int × Int × List Int) ⊕ Int)
      (fun x ↦
        br (bLt x.2.2.2.1 x.2.2.1)
          (grd (iLe 0 x.2.2.2.1)
            (grd (iLt x.2.2.2.1 (ln x.2.2.2.2))
              (bnd (F.LookN (rd x.2.2.2.2 x.2.2.2.1)) fun z ↦
                br (bNot (bEq z.2 0)) (some (Sum.inr (Sum.inr z.2)))
                  (some (Sum.inl (x.1, x.2.1, x.2.2.1, w64 (iadd x.2.2.2.1 1), x.2.2.2.2))))))
          (some (Sum.inr (Sum.inl (x.1, x.2.1, x.2.2.1, x.2.2.2.1, x.2.2.2.2)))))
      (k, k, ln [k, k], 0, [k, k]) = some (.inr 1) := by
    refine loop_some ⟨1, ?_⟩
    simp only [iter]
    rw [bLt_eq, br_if, if_pos (by rw [ln_eq]; simp), grd_yes (by rw [iLe_eq]; decide), grd_yes (by rw [iLt_eq, ln_eq]; simp), bnd_yes LookN_ok]
    simp only
    rw [bEq_eq, bNot_eq, br_not, if_neg (by decide)]
  exact (bnd_yes hr).trans rfl

theorem NetFull_true : ∀ x, F.NetFull x = some true := by
  rintro ⟨f, k⟩
  show NetFull' f k = _
  unfold NetFull'
  rw [bLt_eq, br_if, ln_eq]
  split
  · rw [bnd_yes awake_ok]
  rename_i hlen
  have hb : ∀ i : Int, ((fun _ => f.2.1) i : List Int).length ≤ 1000 := fun _ => by simp only; omega
  obtain ⟨r, hr, hq⟩ := loop_inv (S := Int × Int × fl × List fl × Int) (R := (Int × Int × fl × List fl × Int) ⊕ Bool)
    (f := fun x => br (bLt x.2.1 256)
            (bnd (F.Send ((x.2.1, x.2.2.1.2.1, false), x.2.2.2)) fun z ↦
              br (bNot (bEq z.1 0)) (some (Sum.inr (Sum.inr false)))
                (some (Sum.inl (x.1, w64 (iadd x.2.1 1), x.2.2.1, z.2))))
            (some (Sum.inr (Sum.inl (x.1, x.2.1, x.2.2.1, x.2.2.2)))))
    (fun s => ∃ j : Nat, j ≤ 256 ∧ s = (k, (j : Int), f, sent (fun _ => f.2.1) j, 0)) (fun s => 256 - s.2.1.toNat) (fun r => r = .inl (k, 256, f, sent (fun _ => f.2.1) 256, 0)) (by
      rintro s ⟨j, hj, rfl⟩
      simp only
      rw [bLt_eq, br_if]
      by_cases hlt : j < 256
      · rw [if_pos (by omega), bnd_yes (Send_ok (by simp only; omega) (by rw [sent_len]; omega))]
        simp only
        rw [bEq_eq, bNot_eq, br_not, if_pos rfl, iadd_eq, w64_id (by omega) (by omega)]
        exact .inl ⟨_, rfl, ⟨j + 1, by omega, by rw [sent_succ]; rfl⟩, by simp; omega⟩
      · rw [if_neg (by omega)]
        have : j = 256 := by omega
        subst this
        exact .inr ⟨_, rfl, rfl⟩)
    (k, 0, f, [], 0) ⟨0, by omega, rfl⟩
  subst hq
  refine (bnd_yes hr).trans ?_
  simp only
  have hmem := sent_mem hb (j := 256)
  have hlen2 := sent_len (fun _ => f.2.1) 256
  generalize hL : sent (fun _ => f.2.1) 256 = L at *
  rw [bnd_yes (Send_full (by omega))]
  simp only
  rw [bEq_eq, bNot_eq, br_not, if_pos rfl, show w64 (0 + 1) = 1 from w64_id (by decide) (by decide)]
  rw [bnd_yes (Twice_full (by decide) (by rw [hlen2]; decide) hmem (by omega))]
  simp only
  rw [bEq_eq, bNot_eq, br_not, if_pos rfl, show w64 (1 + 1) = 2 from w64_id (by decide) (by decide)]
  rw [bnd_yes Lost_ok]
  simp only
  rw [bEq_eq, bNot_eq, br_not, if_pos rfl, bnd_yes Len_ok]
  simp only
  rw [bEq_eq, bNot_eq, br_not, if_pos (by rw [hlen2]; rfl), bnd_yes (Clear_ok (by omega))]
  simp only
  have h7 : (keepI (fun _ (f : fl) => decide (f.1 ≠ 7)) 0 L).length = 255 := by rw [← hL, keep7]; rfl
  rw [bEq_eq, bNot_eq, br_not, if_pos (by rw [h7, hlen2]; rfl), bnd_yes (Send_ok (by simp) (by omega))]
  simp only
  rw [bEq_eq, bNot_eq, br_not, if_pos rfl, bnd_yes LookN_ok, bnd_yes TakeN_ok]
  simp only
  rw [bEq_eq, br_if, if_pos rfl, br_if, if_pos rfl, show F.SendN (0, [], false) = some 1 from rfl, bnd_yes rfl]
  rw [bEq_eq, br_if, if_pos rfl, bnd_yes TwiceN_ok, bEq_eq, br_if, if_pos rfl, bnd_yes SwapN_ok, bEq_eq, br_if, if_pos rfl, bnd_yes HurtN_ok, bEq_eq, br_if, if_pos rfl]
  rw [show F.ClearN k = some 0 from rfl, bnd_yes rfl, bEq_eq, br_if, if_pos rfl, show F.LenN () = some 0 from rfl, bnd_yes rfl, show F.LostN () = some 0 from rfl, bnd_yes rfl]
  rw [iadd_eq, show w64 (0 + 0) = 0 from w64_id (by decide) (by decide), bEq_eq, br_if, if_pos rfl, bnd_yes awake_ok]
end Go.Proofs.Ytocefhfihimjdaa
