/- The functions of the net and of its reference: what each of them computes. -/
import Derived.Test.YtocefhfihimjdaaRows
import Derived.Test.YtocefhfihimjdaaE13
set_option linter.unusedVariables false
namespace Go.Proofs.Ytocefhfihimjdaa
open Go.Ev
set_option maxRecDepth 20000
theorem mix : Try.prog.follows .mixedOrders = true := Checked.mixed Try.checked
abbrev u8s : Ty := .list (.int .u8)
abbrev flight : Ty := .pair (.int .i64) (.pair u8s .bool)
abbrev fl : Type := Int × List Int × Bool
abbrev netT : Ty := .box (.pair (.vec false flight) (.int .i64))
abbrev rnet : Ty := .pair (.list flight) (.int .i64)
abbrev rbox : Ty := .box rnet
abbrev act : Ty := .pair (.int .i64) (.pair (.int .i64) (.pair (.int .i64) (.pair (.int .i64) flight)))
noncomputable abbrev d (t : Ty) : AV := .dat t t.dflt
noncomputable abbrev p (j : Nat) : AV := .ptr j [.d] [] 0 0
noncomputable abbrev int : AV := d (.int .i64)
noncomputable abbrev flightO (j : Nat) : AV := .pair int (.pair (.slw j [] 0) (d .bool))
noncomputable abbrev two (a b : AV) : AV := .tup a (.tup b .tnil)
noncomputable abbrev three (a b c : AV) : AV := .tup a (.tup b (.tup c .tnil))
abbrev vu8 : Ty := .vec false (.int .u8)
noncomputable def A0 : FuncId → Nat → Option Ann := fun f b =>
  if f = 3 then (if b = 5 then some ⟨[0, 5, 7, 8, 10, 11], []⟩ else if b = 3 then some ⟨[0, 5, 7], []⟩ else if b = 0 then some ⟨[0, 1, 5, 6], []⟩ else none)
  else if f = 4 then (if b = 2 then some ⟨[1, 5, 6, 8], []⟩ else if b = 0 then some ⟨[0, 1, 5, 6, 7], [(6, rbox)]⟩ else none)
  else if f = 5 then (if b = 0 then some ⟨[1, 2, 5, 6], []⟩ else none)
  else if f = 6 then (if b = 0 then some ⟨[1, 2], []⟩ else none)
  else if f = 10 then (if b = 0 then some ⟨[0, 1, 2, 13, 14, 15], []⟩ else none)
  else if f = 20 then (if b = 0 then some ⟨[1, 5, 11, 12, 13], []⟩ else none)
  else if f = 23 then (if b = 0 then some ⟨[1, 2, 4, 5, 7, 8, 9, 10], []⟩ else none)
  else if f = 27 then (if b = 0 then some ⟨[1, 2, 4, 6, 7], []⟩ else none)
  else if f = 28 then (if b = 0 then some ⟨[0, 1, 5], []⟩ else none)
  else none
namespace S
noncomputable abbrev Clone : Sig := ⟨[d u8s], [], .slw 0 [] 0, [vu8]⟩
noncomputable abbrev own : Sig := ⟨[d flight], [], flightO 0, [vu8]⟩
noncomputable abbrev Len : Sig := ⟨[p 0], [netT], int, [netT]⟩
noncomputable abbrev Look : Sig := ⟨[p 0, int], [netT], two (flightO 1) int, [netT, vu8]⟩
noncomputable abbrev Send : Sig := ⟨[p 0, d flight], [netT], int, [netT]⟩
noncomputable abbrev Twice : Sig := ⟨[p 0, int], [netT], int, [netT]⟩
noncomputable abbrev Swap : Sig := ⟨[p 0, int, int], [netT], int, [netT]⟩
noncomputable abbrev Hurt : Sig := ⟨[p 0, int, int, int], [netT], int, [netT]⟩
noncomputable abbrev are : Sig := ⟨[d flight, d flight], [], d .bool, []⟩
noncomputable abbrev Same : Sig := ⟨[d u8s, d u8s], [], d .bool, []⟩
noncomputable abbrev rSend : Sig := ⟨[d rnet, d flight], [], two (d rnet) int, []⟩
noncomputable abbrev rLook : Sig := ⟨[d rnet, int], [], two (d flight) int, []⟩
noncomputable abbrev rTake : Sig := ⟨[d rnet, int], [], three (d rnet) (d flight) int, []⟩
noncomputable abbrev rTwice : Sig := ⟨[d rnet, int], [], two (d rnet) int, []⟩
noncomputable abbrev rSwap : Sig := ⟨[d rnet, int, int], [], two (d rnet) int, []⟩
noncomputable abbrev rHurt : Sig := ⟨[d rnet, int, int, int], [], two (d rnet) int, []⟩
noncomputable abbrev rwith : Sig := ⟨[d rnet, int, d flight], [], d rnet, []⟩
noncomputable abbrev does : Sig := ⟨[p 0, p 1, d act], [netT, rbox], d .bool, [netT, rbox]⟩
noncomputable abbrev awake : Sig := ⟨[], [], d .bool, []⟩
noncomputable abbrev NetHurts : Sig := ⟨[d u8s, d (.list act)], [], d .bool, []⟩
noncomputable abbrev NetPlays : Sig := ⟨[d (.list act), int], [], d .bool, []⟩
noncomputable abbrev NetFull : Sig := ⟨[d flight, int], [], d .bool, []⟩
noncomputable abbrev LookN : Sig := ⟨[.nil, int], [], two (d flight) int, []⟩
noncomputable abbrev SendN : Sig := ⟨[.nil, d flight], [], int, []⟩
noncomputable abbrev TwiceN : Sig := ⟨[.nil, int], [], int, []⟩
noncomputable abbrev SwapN : Sig := ⟨[.nil, int, int], [], int, []⟩
noncomputable abbrev HurtN : Sig := ⟨[.nil, int, int, int], [], int, []⟩
noncomputable abbrev LenN : Sig := ⟨[.nil], [], int, []⟩
end S
abbrev acts : Type := Int × Int × Int × Int × fl
abbrev K0 : List Ent := []
theorem K0_ok : AllOk Try.prog K0 := AllOk.nil

noncomputable def Clone' (l : List Int) : Option (List Int) :=
  
  br (bEq (ln l) 0) (both (some []) (grd (iLe (imul (iadd (ln (α := Int) []) (ln l)) 1) 140737488355328) (some (app [] l))))
    (grd (iLe (imul (iadd (ln (α := Int) []) (ln l)) 1) 140737488355328) (some (app [] l)))
noncomputable def F.Clone : List Int → Option (List Int) := fun x => Clone' x
theorem Clone_eq : (fun (l : List Int) => runF Try.prog (handler Try.prog (known K0) A0 0) (handler Try.prog (known K0) A0 3) (A0 30) Try.f30 S.Clone l) = Clone' := by kernel_rfl
theorem Clone_con : ConOk Try.prog 30 ⟨S.Clone, F.Clone⟩ := con_of 3 mix K0_ok Try.func30 (by kernel_rfl) (funext fun x => congrFun (Clone_eq) x)
noncomputable abbrev K1 : List Ent := ⟨30, false, ⟨S.Clone, F.Clone⟩⟩ :: K0
theorem K1_ok : AllOk Try.prog K1 := AllOk.cons Clone_con K0_ok

noncomputable def own' (t : Int) (b : List Int) (h : Bool) : Option (Int × Bool × List Int) :=
  bnd (F.Clone b) fun z ↦ some (t, h, z)
noncomputable def F.own : fl → Option (Int × Bool × List Int) := fun x => own' x.1 x.2.1 x.2.2
theorem own_eq : (fun (t : Int) (b : List Int) (h : Bool) => runF Try.prog (handler Try.prog (known K1) A0 0) (handler Try.prog (known K1) A0 3) (A0 19) Try.f19 S.own (t, b, h)) = own' := by kernel_rfl
theorem own_con : ConOk Try.prog 19 ⟨S.own, F.own⟩ := con_of 3 mix K1_ok Try.func19 (by kernel_rfl) (funext fun x => congrFun (congrFun (congrFun (own_eq) x.1) x.2.1) x.2.2)
noncomputable abbrev K2 : List Ent := ⟨19, false, ⟨S.own, F.own⟩⟩ :: K1
theorem K2_ok : AllOk Try.prog K2 := AllOk.cons own_con K1_ok

noncomputable def Len' (l : List fl) (n : Int) : Option (Int × List fl × Int) :=
  some (ln l, l, n)
noncomputable def F.Len : List fl × Int → Option (Int × List fl × Int) := fun x => Len' x.1 x.2
theorem Len_eq : (fun (l : List fl) (n : Int) => runF Try.prog (handler Try.prog (known K2) A0 0) (handler Try.prog (known K2) A0 3) (A0 12) Try.f12 S.Len (l, n)) = Len' := by kernel_rfl
theorem Len_con : ConOk Try.prog 12 ⟨S.Len, F.Len⟩ := con_of 3 mix K2_ok Try.func12 (by kernel_rfl) (funext fun x => congrFun (congrFun (Len_eq) x.1) x.2)
noncomputable abbrev K3 : List Ent := ⟨12, false, ⟨S.Len, F.Len⟩⟩ :: K2
theorem K3_ok : AllOk Try.prog K3 := AllOk.cons Len_con K2_ok

noncomputable def Lost' (l : List fl) (n : Int) : Option (Int × List fl × Int) :=
  some (n, l, n)
noncomputable def F.Lost : List fl × Int → Option (Int × List fl × Int) := fun x => Lost' x.1 x.2
theorem Lost_eq : (fun (l : List fl) (n : Int) => runF Try.prog (handler Try.prog (known K3) A0 0) (handler Try.prog (known K3) A0 3) (A0 15) Try.f15 S.Len (l, n)) = Lost' := by kernel_rfl
theorem Lost_con : ConOk Try.prog 15 ⟨S.Len, F.Lost⟩ := con_of 3 mix K3_ok Try.func15 (by kernel_rfl) (funext fun x => congrFun (congrFun (Lost_eq) x.1) x.2)
noncomputable abbrev K4 : List Ent := ⟨15, false, ⟨S.Len, F.Lost⟩⟩ :: K3
theorem K4_ok : AllOk Try.prog K4 := AllOk.cons Lost_con K3_ok

noncomputable def Look' (k : Int) (l : List fl) (n : Int) : Option (Int × Bool × Int × (List fl × Int) × List Int) :=
  
  br (bLt k 0) (some (0, false, 8, (l, n), []))
    (br (bLe (ln l) k) (some (0, false, 8, (l, n), []))
      (grd (iLe 0 k) (grd (iLt k (ln l)) (bnd (F.own (rd l k)) fun z ↦ some (z.1, z.2.1, 0, (l, n), z.2.2)))))
noncomputable def F.Look : Int × List fl × Int → Option (Int × Bool × Int × (List fl × Int) × List Int) := fun x => Look' x.1 x.2.1 x.2.2
theorem Look_eq : (fun (k : Int) (l : List fl) (n : Int) => runF Try.prog (handler Try.prog (known K4) A0 0) (handler Try.prog (known K4) A0 3) (A0 13) Try.f13 S.Look (k, l, n)) = Look' := by kernel_rfl
theorem Look_con : ConOk Try.prog 13 ⟨S.Look, F.Look⟩ := con_of 3 mix K4_ok Try.func13 (by kernel_rfl) (funext fun x => congrFun (congrFun (congrFun (Look_eq) x.1) x.2.1) x.2.2)
noncomputable abbrev K5 : List Ent := ⟨13, false, ⟨S.Look, F.Look⟩⟩ :: K4
theorem K5_ok : AllOk Try.prog K5 := AllOk.cons Look_con K4_ok

noncomputable def Send' (f : fl) (l : List fl) (n : Int) : Option (Int × List fl × Int) :=
  
  br (bLe 256 (ln l)) (some (7, l, w64 (iadd n 1)))
    (bnd (F.own f) fun z ↦
      grd (iLe (imul (iadd (ln l) (ln [(z.1, z.2.2, z.2.1)])) 40) 140737488355328)
        (some (0, app l [(z.1, z.2.2, z.2.1)], n)))
noncomputable def F.Send : fl × List fl × Int → Option (Int × List fl × Int) := fun x => Send' x.1 x.2.1 x.2.2
theorem Send_eq : (fun (f : fl) (l : List fl) (n : Int) => runF Try.prog (handler Try.prog (known K5) A0 0) (handler Try.prog (known K5) A0 3) (A0 7) Try.f7 S.Send (f, l, n)) = Send' := by kernel_rfl
theorem Send_con : ConOk Try.prog 7 ⟨S.Send, F.Send⟩ := con_of 3 mix K5_ok Try.func7 (by kernel_rfl) (funext fun x => congrFun (congrFun (congrFun (Send_eq) x.1) x.2.1) x.2.2)
noncomputable abbrev K6 : List Ent := ⟨7, false, ⟨S.Send, F.Send⟩⟩ :: K5
theorem K6_ok : AllOk Try.prog K6 := AllOk.cons Send_con K5_ok

noncomputable def Take' (k : Int) (l : List fl) (n : Int) : Option (Int × Bool × Int × (List fl × Int) × List Int) :=
  
  bnd (F.Look (k, l, n)) fun z ↦
    br (bEq z.2.2.1 0)
      (grd (iLe 0 0)
        (grd (iLe 0 (ln z.2.2.2.1.1))
          (grd (iLe (imul (ln z.2.2.2.1.1) 40) 140737488355328)
            (bnd
              (loopR
                (fun x ↦
                  br (bLt x.2.1 x.1)
                    (grd (iLe 0 x.2.1)
                      (grd (iLt x.2.1 (ln x.2.2.2.2.1))
                        (br (bNot (bEq x.2.1 x.2.2.1))
                          (grd (iLe (imul (iadd (ln x.2.2.2.1) (ln [rd x.2.2.2.2.1 x.2.1])) 40) 140737488355328)
                            (some
                              (Sum.inl
                                (x.1, w64 (iadd x.2.1 1), x.2.2.1, app x.2.2.2.1 [rd x.2.2.2.2.1 x.2.1], x.2.2.2.2))))
                          (some (Sum.inl (x.1, w64 (iadd x.2.1 1), x.2.2.1, x.2.2.2.1, x.2.2.2.2))))))
                    (some (Sum.inr (x.1, x.2.1, x.2.2.1, x.2.2.2.1, x.2.2.2.2))))
                (ln z.2.2.2.1.1, 0, k, rep 0 (0, [], false), z.2.2.2.1))
              fun x ↦ some (z.1, z.2.1, z.2.2.1, (x.2.2.2.1, x.2.2.2.2.2), z.2.2.2.2)))))
      (some (z.1, z.2.1, z.2.2.1, z.2.2.2.1, z.2.2.2.2))
noncomputable def F.Take : Int × List fl × Int → Option (Int × Bool × Int × (List fl × Int) × List Int) := fun x => Take' x.1 x.2.1 x.2.2
theorem Take_eq : (fun (k : Int) (l : List fl) (n : Int) => runF Try.prog (handler Try.prog (known K6) A0 0) (handler Try.prog (known K6) A0 3) (A0 8) Try.f8 S.Look (k, l, n)) = Take' := by kernel_rfl
theorem Take_con : ConOk Try.prog 8 ⟨S.Look, F.Take⟩ := con_of 3 mix K6_ok Try.func8 (by kernel_rfl) (funext fun x => congrFun (congrFun (congrFun (Take_eq) x.1) x.2.1) x.2.2)
noncomputable abbrev K7 : List Ent := ⟨8, false, ⟨S.Look, F.Take⟩⟩ :: K6
theorem K7_ok : AllOk Try.prog K7 := AllOk.cons Take_con K6_ok

noncomputable def Twice' (k : Int) (l : List fl) (n : Int) : Option (Int × List fl × Int) :=
  
  bnd (F.Look (k, l, n)) fun z ↦
    br (bNot (bEq z.2.2.1 0)) (some (z.2.2.1, z.2.2.2.1))
      (bnd (F.Send ((z.1, z.2.2.2.2, z.2.1), z.2.2.2.1)) fun z ↦ some (z.1, z.2))
noncomputable def F.Twice : Int × List fl × Int → Option (Int × List fl × Int) := fun x => Twice' x.1 x.2.1 x.2.2
theorem Twice_eq : (fun (k : Int) (l : List fl) (n : Int) => runF Try.prog (handler Try.prog (known K7) A0 0) (handler Try.prog (known K7) A0 3) (A0 9) Try.f9 S.Twice (k, l, n)) = Twice' := by kernel_rfl
theorem Twice_con : ConOk Try.prog 9 ⟨S.Twice, F.Twice⟩ := con_of 3 mix K7_ok Try.func9 (by kernel_rfl) (funext fun x => congrFun (congrFun (congrFun (Twice_eq) x.1) x.2.1) x.2.2)
noncomputable abbrev K8 : List Ent := ⟨9, false, ⟨S.Twice, F.Twice⟩⟩ :: K7
theorem K8_ok : AllOk Try.prog K8 := AllOk.cons Twice_con K7_ok

noncomputable def Swap' (k m : Int) (l : List fl) (n : Int) : Option (Int × List fl × Int) :=
  
  bnd
    (loopR
      (fun x ↦
        br (bLt x.2.2.2.1 x.2.2.1)
          (grd (iLe 0 x.2.2.2.1)
            (grd (iLt x.2.2.2.1 (ln x.2.2.2.2.2))
              (bnd (F.Look (rd x.2.2.2.2.2 x.2.2.2.1, x.2.2.2.2.1)) fun z ↦
                br (bNot (bEq z.2.2.1 0)) (some (Sum.inr (Sum.inr (z.2.2.1, z.2.2.2.1))))
                  (some (Sum.inl (x.1, x.2.1, x.2.2.1, w64 (iadd x.2.2.2.1 1), z.2.2.2.1, x.2.2.2.2.2))))))
          (some (Sum.inr (Sum.inl (x.1, x.2.1, x.2.2.1, x.2.2.2.1, x.2.2.2.2.1, x.2.2.2.2.2)))))
      (k, m, ln [k, m], 0, (l, n), [k, m]))
    fun o ↦
    Sum.rec
      (fun val ↦
        grd (iLe 0 val.2.1)
          (grd (iLt val.2.1 (ln val.2.2.2.2.1.1))
            (grd (iLe 0 val.1)
              (grd (iLt val.1 (ln val.2.2.2.2.1.1))
                (grd (iLe 0 val.1)
                  (grd (iLt val.1 (ln val.2.2.2.2.1.1))
                    (grd (iLe 0 val.2.1)
                      (grd (iLt val.2.1 (ln (wr val.2.2.2.2.1.1 val.1 (rd val.2.2.2.2.1.1 val.2.1))))
                        (some
                          (0,
                            wr (wr val.2.2.2.2.1.1 val.1 (rd val.2.2.2.2.1.1 val.2.1)) val.2.1
                              (rd val.2.2.2.2.1.1 val.1),
                            val.2.2.2.2.1.2))))))))))
      (fun val ↦ some val) o
noncomputable def F.Swap : Int × Int × List fl × Int → Option (Int × List fl × Int) := fun x => Swap' x.1 x.2.1 x.2.2.1 x.2.2.2
theorem Swap_eq : (fun (k m : Int) (l : List fl) (n : Int) => runF Try.prog (handler Try.prog (known K8) A0 0) (handler Try.prog (known K8) A0 3) (A0 10) Try.f10 S.Swap (k, m, l, n)) = Swap' := by kernel_rfl
theorem Swap_con : ConOk Try.prog 10 ⟨S.Swap, F.Swap⟩ := con_of 3 mix K8_ok Try.func10 (by kernel_rfl) (funext fun x => congrFun (congrFun (congrFun (congrFun (Swap_eq) x.1) x.2.1) x.2.2.1) x.2.2.2)
noncomputable abbrev K9 : List Ent := ⟨10, false, ⟨S.Swap, F.Swap⟩⟩ :: K8
theorem K9_ok : AllOk Try.prog K9 := AllOk.cons Swap_con K8_ok

noncomputable def Hurt' (k m b : Int) (l : List fl) (n : Int) : Option (Int × List fl × Int) :=
  
  bnd (F.Look (k, l, n)) fun z ↦
    br (bNot (bEq z.2.2.1 0)) (some (z.2.2.1, z.2.2.2.1))
      (br z.2.1 (some (9, z.2.2.2.1))
        (br (bLt m 0) (some (2, z.2.2.2.1))
          (br (bLe (ln z.2.2.2.2) m) (some (2, z.2.2.2.1))
            (br (bLt b 1) (some (2, z.2.2.2.1))
              (br (bLt 255 b) (some (2, z.2.2.2.1))
                (grd (iLe 0 m)
                  (grd (iLt m (ln z.2.2.2.2))
                    (grd (iLe 0 m)
                      (grd (iLt m (ln z.2.2.2.2))
                        (grd (iLe 0 k)
                          (grd (iLt k (ln z.2.2.2.1.1))
                            (some
                              (0,
                                wr z.2.2.2.1.1 k
                                  (z.1,
                                    wr z.2.2.2.2 m (bitK BinOp.xor IntKind.u8 (rd z.2.2.2.2 m) (wrapK' IntKind.u8 b)),
                                    true),
                                z.2.2.2.1.2)))))))))))))
noncomputable def F.Hurt : Int × Int × Int × List fl × Int → Option (Int × List fl × Int) := fun x => Hurt' x.1 x.2.1 x.2.2.1 x.2.2.2.1 x.2.2.2.2
theorem Hurt_eq : (fun (k m b : Int) (l : List fl) (n : Int) => runF Try.prog (handler Try.prog (known K9) A0 0) (handler Try.prog (known K9) A0 3) (A0 11) Try.f11 S.Hurt (k, m, b, l, n)) = Hurt' := by kernel_rfl
theorem Hurt_con : ConOk Try.prog 11 ⟨S.Hurt, F.Hurt⟩ := con_of 3 mix K9_ok Try.func11 (by kernel_rfl) (funext fun x => congrFun (congrFun (congrFun (congrFun (congrFun (Hurt_eq) x.1) x.2.1) x.2.2.1) x.2.2.2.1) x.2.2.2.2)
noncomputable abbrev K10 : List Ent := ⟨11, false, ⟨S.Hurt, F.Hurt⟩⟩ :: K9
theorem K10_ok : AllOk Try.prog K10 := AllOk.cons Hurt_con K9_ok

noncomputable def Clear' (k : Int) (l : List fl) (n : Int) : Option (Int × List fl × Int) :=
  
  grd (iLe 0 0)
    (grd (iLe 0 (ln l))
      (grd (iLe (imul (ln l) 40) 140737488355328)
        (bnd
          (loopR
            (fun x ↦
              br (bLt x.2.1 x.1)
                (grd (iLe 0 x.2.1)
                  (grd (iLt x.2.1 (ln x.2.2.2.2.1))
                    (br (bNot (bEq (rd x.2.2.2.2.1 x.2.1).1 x.2.2.1))
                      (grd (iLe (imul (iadd (ln x.2.2.2.1) (ln [rd x.2.2.2.2.1 x.2.1])) 40) 140737488355328)
                        (some
                          (Sum.inl
                            (x.1, w64 (iadd x.2.1 1), x.2.2.1, app x.2.2.2.1 [rd x.2.2.2.2.1 x.2.1], x.2.2.2.2))))
                      (some (Sum.inl (x.1, w64 (iadd x.2.1 1), x.2.2.1, x.2.2.2.1, x.2.2.2.2))))))
                (some (Sum.inr (x.1, x.2.1, x.2.2.1, x.2.2.2.1, x.2.2.2.2))))
            (ln l, 0, k, rep 0 (0, [], false), l, n))
          fun x ↦ some (w64 (isub (ln l) (ln x.2.2.2.1)), x.2.2.2.1, x.2.2.2.2.2))))
noncomputable def F.Clear : Int × List fl × Int → Option (Int × List fl × Int) := fun x => Clear' x.1 x.2.1 x.2.2
theorem Clear_eq : (fun (k : Int) (l : List fl) (n : Int) => runF Try.prog (handler Try.prog (known K10) A0 0) (handler Try.prog (known K10) A0 3) (A0 18) Try.f18 S.Twice (k, l, n)) = Clear' := by kernel_rfl
theorem Clear_con : ConOk Try.prog 18 ⟨S.Twice, F.Clear⟩ := con_of 3 mix K10_ok Try.func18 (by kernel_rfl) (funext fun x => congrFun (congrFun (congrFun (Clear_eq) x.1) x.2.1) x.2.2)
noncomputable abbrev K11 : List Ent := ⟨18, false, ⟨S.Twice, F.Clear⟩⟩ :: K10
theorem K11_ok : AllOk Try.prog K11 := AllOk.cons Clear_con K10_ok

noncomputable def LookN' (k : Int) : Option (fl × Int) :=
  some ((0, [], false), 1)
noncomputable def F.LookN : Int → Option (fl × Int) := fun x => LookN' x
theorem LookN_eq : (fun (k : Int) => runF Try.prog (handler Try.prog (known K11) A0 0) (handler Try.prog (known K11) A0 3) (A0 13) Try.f13 S.LookN k) = LookN' := by kernel_rfl
theorem LookN_con : ConOk Try.prog 13 ⟨S.LookN, F.LookN⟩ := con_of 3 mix K11_ok Try.func13 (by kernel_rfl) (funext fun x => congrFun (LookN_eq) x)
noncomputable abbrev K12 : List Ent := ⟨13, true, ⟨S.LookN, F.LookN⟩⟩ :: K11
theorem K12_ok : AllOk Try.prog K12 := AllOk.cons LookN_con K11_ok

noncomputable def TakeN' (k : Int) : Option (fl × Int) :=
  bnd (F.LookN k) fun z ↦ br (bEq z.2 0) none (some (z.1, z.2))
noncomputable def F.TakeN : Int → Option (fl × Int) := fun x => TakeN' x
theorem TakeN_eq : (fun (k : Int) => runF Try.prog (handler Try.prog (known K12) A0 0) (handler Try.prog (known K12) A0 3) (A0 8) Try.f8 S.LookN k) = TakeN' := by kernel_rfl
theorem TakeN_con : ConOk Try.prog 8 ⟨S.LookN, F.TakeN⟩ := con_of 3 mix K12_ok Try.func8 (by kernel_rfl) (funext fun x => congrFun (TakeN_eq) x)
noncomputable abbrev K13 : List Ent := ⟨8, true, ⟨S.LookN, F.TakeN⟩⟩ :: K12
theorem K13_ok : AllOk Try.prog K13 := AllOk.cons TakeN_con K12_ok

noncomputable def SendN' (f : fl) : Option (Int) :=
  some 1
noncomputable def F.SendN : fl → Option (Int) := fun x => SendN' x
theorem SendN_eq : (fun (f : fl) => runF Try.prog (handler Try.prog (known K13) A0 0) (handler Try.prog (known K13) A0 3) (A0 7) Try.f7 S.SendN f) = SendN' := by kernel_rfl
theorem SendN_con : ConOk Try.prog 7 ⟨S.SendN, F.SendN⟩ := con_of 3 mix K13_ok Try.func7 (by kernel_rfl) (funext fun x => congrFun (SendN_eq) x)
noncomputable abbrev K14 : List Ent := ⟨7, true, ⟨S.SendN, F.SendN⟩⟩ :: K13
theorem K14_ok : AllOk Try.prog K14 := AllOk.cons SendN_con K13_ok

noncomputable def TwiceN' (k : Int) : Option (Int) :=
  bnd (F.LookN k) fun z ↦ br (bNot (bEq z.2 0)) (some z.2) (bnd (F.SendN z.1) fun z ↦ some z)
noncomputable def F.TwiceN : Int → Option (Int) := fun x => TwiceN' x
theorem TwiceN_eq : (fun (k : Int) => runF Try.prog (handler Try.prog (known K14) A0 0) (handler Try.prog (known K14) A0 3) (A0 9) Try.f9 S.TwiceN k) = TwiceN' := by kernel_rfl
theorem TwiceN_con : ConOk Try.prog 9 ⟨S.TwiceN, F.TwiceN⟩ := con_of 3 mix K14_ok Try.func9 (by kernel_rfl) (funext fun x => congrFun (TwiceN_eq) x)
noncomputable abbrev K15 : List Ent := ⟨9, true, ⟨S.TwiceN, F.TwiceN⟩⟩ :: K14
theorem K15_ok : AllOk Try.prog K15 := AllOk.cons TwiceN_con K14_ok

noncomputable def ClearN' (k : Int) : Option (Int) :=
  some 0
noncomputable def F.ClearN : Int → Option (Int) := fun x => ClearN' x
theorem ClearN_eq : (fun (k : Int) => runF Try.prog (handler Try.prog (known K15) A0 0) (handler Try.prog (known K15) A0 3) (A0 18) Try.f18 S.TwiceN k) = ClearN' := by kernel_rfl
theorem ClearN_con : ConOk Try.prog 18 ⟨S.TwiceN, F.ClearN⟩ := con_of 3 mix K15_ok Try.func18 (by kernel_rfl) (funext fun x => congrFun (ClearN_eq) x)
noncomputable abbrev K16 : List Ent := ⟨18, true, ⟨S.TwiceN, F.ClearN⟩⟩ :: K15
theorem K16_ok : AllOk Try.prog K16 := AllOk.cons ClearN_con K15_ok

noncomputable def SwapN' (k m : Int) : Option (Int) :=
  
  bnd
    (loopR
      (fun x ↦
        br (bLt x.2.2.2.1 x.2.2.1)
          (grd (iLe 0 x.2.2.2.1)
            (grd (iLt x.2.2.2.1 (ln x.2.2.2.2))
              (bnd (F.LookN (rd x.2.2.2.2 x.2.2.2.1)) fun z ↦
                br (bNot (bEq z.2 0)) (some (Sum.inr (Sum.inr z.2)))
                  (some (Sum.inl (x.1, x.2.1, x.2.2.1, w64 (iadd x.2.2.2.1 1), x.2.2.2.2))))))
          (some (Sum.inr (Sum.inl (x.1, x.2.1, x.2.2.1, x.2.2.2.1, x.2.2.2.2)))))
      (k, m, ln [k, m], 0, [k, m]))
    fun o ↦ Sum.rec (fun val ↦ none) (fun val ↦ some val) o
noncomputable def F.SwapN : Int × Int → Option (Int) := fun x => SwapN' x.1 x.2
theorem SwapN_eq : (fun (k m : Int) => runF Try.prog (handler Try.prog (known K16) A0 0) (handler Try.prog (known K16) A0 3) (A0 10) Try.f10 S.SwapN (k, m)) = SwapN' := by kernel_rfl
theorem SwapN_con : ConOk Try.prog 10 ⟨S.SwapN, F.SwapN⟩ := con_of 3 mix K16_ok Try.func10 (by kernel_rfl) (funext fun x => congrFun (congrFun (SwapN_eq) x.1) x.2)
noncomputable abbrev K17 : List Ent := ⟨10, true, ⟨S.SwapN, F.SwapN⟩⟩ :: K16
theorem K17_ok : AllOk Try.prog K17 := AllOk.cons SwapN_con K16_ok

noncomputable def HurtN' (k m b : Int) : Option (Int) :=
  
  bnd (F.LookN k) fun z ↦
    br (bNot (bEq z.2 0)) (some z.2)
      (br z.1.2.2 (some 9)
        (br (bLt m 0) (some 2)
          (br (bLe (ln z.1.2.1) m) (some 2)
            (br (bLt b 1) (some 2)
              (br (bLt 255 b) (some 2)
                (grd (iLe 0 m) (grd (iLt m (ln z.1.2.1)) (grd (iLe 0 m) (grd (iLt m (ln z.1.2.1)) none)))))))))
noncomputable def F.HurtN : Int × Int × Int → Option (Int) := fun x => HurtN' x.1 x.2.1 x.2.2
theorem HurtN_eq : (fun (k m b : Int) => runF Try.prog (handler Try.prog (known K17) A0 0) (handler Try.prog (known K17) A0 3) (A0 11) Try.f11 S.HurtN (k, m, b)) = HurtN' := by kernel_rfl
theorem HurtN_con : ConOk Try.prog 11 ⟨S.HurtN, F.HurtN⟩ := con_of 3 mix K17_ok Try.func11 (by kernel_rfl) (funext fun x => congrFun (congrFun (congrFun (HurtN_eq) x.1) x.2.1) x.2.2)
noncomputable abbrev K18 : List Ent := ⟨11, true, ⟨S.HurtN, F.HurtN⟩⟩ :: K17
theorem K18_ok : AllOk Try.prog K18 := AllOk.cons HurtN_con K17_ok

noncomputable def LenN'  : Option (Int) :=
  some 0
noncomputable def F.LenN : Unit → Option (Int) := fun x => LenN' 
theorem LenN_eq : (runF Try.prog (handler Try.prog (known K18) A0 0) (handler Try.prog (known K18) A0 3) (A0 12) Try.f12 S.LenN ()) = LenN' := by kernel_rfl
theorem LenN_con : ConOk Try.prog 12 ⟨S.LenN, F.LenN⟩ := con_of 3 mix K18_ok Try.func12 (by kernel_rfl) (funext fun x => LenN_eq)
noncomputable abbrev K19 : List Ent := ⟨12, true, ⟨S.LenN, F.LenN⟩⟩ :: K18
theorem K19_ok : AllOk Try.prog K19 := AllOk.cons LenN_con K18_ok

noncomputable def LostN'  : Option (Int) :=
  some 0
noncomputable def F.LostN : Unit → Option (Int) := fun x => LostN' 
theorem LostN_eq : (runF Try.prog (handler Try.prog (known K19) A0 0) (handler Try.prog (known K19) A0 3) (A0 15) Try.f15 S.LenN ()) = LostN' := by kernel_rfl
theorem LostN_con : ConOk Try.prog 15 ⟨S.LenN, F.LostN⟩ := con_of 3 mix K19_ok Try.func15 (by kernel_rfl) (funext fun x => LostN_eq)
noncomputable abbrev K20 : List Ent := ⟨15, true, ⟨S.LenN, F.LostN⟩⟩ :: K19
theorem K20_ok : AllOk Try.prog K20 := AllOk.cons LostN_con K19_ok

noncomputable def Same' (a b : List Int) : Option (Bool) :=
  
  br (bNot (bEq (ln a) (ln b))) (some false)
    (bnd
      (loopR
        (fun x ↦
          br (bLt x.2.2 (ln x.1))
            (grd (iLe 0 x.2.2)
              (grd (iLt x.2.2 (ln x.1))
                (grd (iLe 0 x.2.2)
                  (grd (iLt x.2.2 (ln x.2.1))
                    (br (bNot (bEq (rd x.1 x.2.2) (rd x.2.1 x.2.2))) (some (Sum.inr (Sum.inr false)))
                      (some (Sum.inl (x.1, x.2.1, w64 (iadd x.2.2 1)))))))))
            (some (Sum.inr (Sum.inl (x.1, x.2.1, x.2.2)))))
        (a, b, 0))
      fun o ↦ Sum.rec (fun val ↦ some true) (fun val ↦ some val) o)
noncomputable def F.Same : List Int × List Int → Option (Bool) := fun x => Same' x.1 x.2
theorem Same_eq : (fun (a b : List Int) => runF Try.prog (handler Try.prog (known K20) A0 0) (handler Try.prog (known K20) A0 3) (A0 28) Try.f28 S.Same (a, b)) = Same' := by kernel_rfl
theorem Same_con : ConOk Try.prog 28 ⟨S.Same, F.Same⟩ := con_of 3 mix K20_ok Try.func28 (by kernel_rfl) (funext fun x => congrFun (congrFun (Same_eq) x.1) x.2)
noncomputable abbrev K21 : List Ent := ⟨28, false, ⟨S.Same, F.Same⟩⟩ :: K20
theorem K21_ok : AllOk Try.prog K21 := AllOk.cons Same_con K20_ok

noncomputable def are' (a b : fl) : Option (Bool) :=
  
  br (bEq a.1 b.1) (br (bIff a.2.2 b.2.2) (bnd (F.Same (a.2.1, b.2.1)) fun z ↦ some z) (some false)) (some false)
noncomputable def F.are : fl × fl → Option (Bool) := fun x => are' x.1 x.2
theorem are_eq : (fun (a b : fl) => runF Try.prog (handler Try.prog (known K21) A0 0) (handler Try.prog (known K21) A0 3) (A0 16) Try.f16 S.are (a, b)) = are' := by kernel_rfl
theorem are_con : ConOk Try.prog 16 ⟨S.are, F.are⟩ := con_of 3 mix K21_ok Try.func16 (by kernel_rfl) (funext fun x => congrFun (congrFun (are_eq) x.1) x.2)
noncomputable abbrev K22 : List Ent := ⟨16, false, ⟨S.are, F.are⟩⟩ :: K21
theorem K22_ok : AllOk Try.prog K22 := AllOk.cons are_con K21_ok

noncomputable def rSend' (r : List fl) (n : Int) (f : fl) : Option ((List fl × Int) × Int) :=
  
  br (bLe 256 (ln r)) (some ((r, w64 (iadd n 1)), 7))
    (grd (iLe (imul (iadd (ln (α := fl) []) (ln r)) 40) 140737488355328)
      (grd (iLe (imul (iadd (ln (app [] r)) (ln [f])) 40) 140737488355328) (some ((app (app [] r) [f], n), 0))))
noncomputable def F.rSend : (List fl × Int) × fl → Option ((List fl × Int) × Int) := fun x => rSend' x.1.1 x.1.2 x.2
theorem rSend_eq : (fun (r : List fl) (n : Int) (f : fl) => runF Try.prog (handler Try.prog (known K22) A0 0) (handler Try.prog (known K22) A0 3) (A0 22) Try.f22 S.rSend ((r, n), f)) = rSend' := by kernel_rfl
theorem rSend_con : ConOk Try.prog 22 ⟨S.rSend, F.rSend⟩ := con_of 3 mix K22_ok Try.func22 (by kernel_rfl) (funext fun x => congrFun (congrFun (congrFun (rSend_eq) x.1.1) x.1.2) x.2)
noncomputable abbrev K23 : List Ent := ⟨22, false, ⟨S.rSend, F.rSend⟩⟩ :: K22
theorem K23_ok : AllOk Try.prog K23 := AllOk.cons rSend_con K22_ok

noncomputable def rLook' (r : List fl) (n k : Int) : Option (fl × Int) :=
  
  br (bLt k 0) (some ((0, [], false), 8))
    (br (bLe (ln r) k) (some ((0, [], false), 8)) (grd (iLe 0 k) (grd (iLt k (ln r)) (some (rd r k, 0)))))
noncomputable def F.rLook : (List fl × Int) × Int → Option (fl × Int) := fun x => rLook' x.1.1 x.1.2 x.2
theorem rLook_eq : (fun (r : List fl) (n k : Int) => runF Try.prog (handler Try.prog (known K23) A0 0) (handler Try.prog (known K23) A0 3) (A0 17) Try.f17 S.rLook ((r, n), k)) = rLook' := by kernel_rfl
theorem rLook_con : ConOk Try.prog 17 ⟨S.rLook, F.rLook⟩ := con_of 3 mix K23_ok Try.func17 (by kernel_rfl) (funext fun x => congrFun (congrFun (congrFun (rLook_eq) x.1.1) x.1.2) x.2)
noncomputable abbrev K24 : List Ent := ⟨17, false, ⟨S.rLook, F.rLook⟩⟩ :: K23
theorem K24_ok : AllOk Try.prog K24 := AllOk.cons rLook_con K23_ok

noncomputable def rTake' (r : List fl) (n k : Int) : Option ((List fl × Int) × fl × Int) :=
  
  bnd (F.rLook ((r, n), k)) fun z ↦
    bnd
      (loopR
        (fun (x : Int × Int × Int × (List fl × Int) × (List fl × Int) × fl × fl × List fl × Int) ↦
          br (bLt x.2.2.1 (ln x.2.2.2.1.1))
            (br (bNot (bEq x.2.2.1 x.1))
              (grd (iLe 0 x.2.2.1)
                (grd (iLt x.2.2.1 (ln x.2.2.2.1.1))
                  (grd (iLe (imul (iadd (ln x.2.2.2.2.2.2.2.1) (ln [rd x.2.2.2.1.1 x.2.2.1])) 40) 140737488355328)
                    (some
                      (Sum.inl
                        (x.1, x.2.1, w64 (iadd x.2.2.1 1), x.2.2.2.1, x.2.2.2.2.1, x.2.2.2.2.2.1, x.2.2.2.2.2.2.1,
                          app x.2.2.2.2.2.2.2.1 [rd x.2.2.2.1.1 x.2.2.1], x.2.2.2.2.2.2.2.2))))))
              (some
                (Sum.inl
                  (x.1, x.2.1, w64 (iadd x.2.2.1 1), x.2.2.2.1, x.2.2.2.2.1, x.2.2.2.2.2.1, x.2.2.2.2.2.2.1,
                    x.2.2.2.2.2.2.2))))
            (some
              (Sum.inr (x.1, x.2.1, x.2.2.1, x.2.2.2.1, x.2.2.2.2.1, x.2.2.2.2.2.1, x.2.2.2.2.2.2.1, x.2.2.2.2.2.2.2))))
        (k, z.2, 0, (r, n), ([], 0), (0, [], false), z.1, [], n))
      fun x ↦ some ((x.2.2.2.2.2.2.2.1, x.2.2.2.2.2.2.2.2), x.2.2.2.2.2.2.1, x.2.1)
noncomputable def F.rTake : (List fl × Int) × Int → Option ((List fl × Int) × fl × Int) := fun x => rTake' x.1.1 x.1.2 x.2
theorem rTake_eq : (fun (r : List fl) (n k : Int) => runF Try.prog (handler Try.prog (known K24) A0 0) (handler Try.prog (known K24) A0 3) (A0 23) Try.f23 S.rTake ((r, n), k)) = rTake' := by kernel_rfl
theorem rTake_con : ConOk Try.prog 23 ⟨S.rTake, F.rTake⟩ := con_of 3 mix K24_ok Try.func23 (by kernel_rfl) (funext fun x => congrFun (congrFun (congrFun (rTake_eq) x.1.1) x.1.2) x.2)
noncomputable abbrev K25 : List Ent := ⟨23, false, ⟨S.rTake, F.rTake⟩⟩ :: K24
theorem K25_ok : AllOk Try.prog K25 := AllOk.cons rTake_con K24_ok

noncomputable def rTwice' (r : List fl) (n k : Int) : Option ((List fl × Int) × Int) :=
  
  bnd (F.rLook ((r, n), k)) fun z ↦
    br (bNot (bEq z.2 0)) (some ((r, n), z.2)) (bnd (F.rSend ((r, n), z.1)) fun z ↦ some (z.1, z.2))
noncomputable def F.rTwice : (List fl × Int) × Int → Option ((List fl × Int) × Int) := fun x => rTwice' x.1.1 x.1.2 x.2
theorem rTwice_eq : (fun (r : List fl) (n k : Int) => runF Try.prog (handler Try.prog (known K25) A0 0) (handler Try.prog (known K25) A0 3) (A0 24) Try.f24 S.rTwice ((r, n), k)) = rTwice' := by kernel_rfl
theorem rTwice_con : ConOk Try.prog 24 ⟨S.rTwice, F.rTwice⟩ := con_of 3 mix K25_ok Try.func24 (by kernel_rfl) (funext fun x => congrFun (congrFun (congrFun (rTwice_eq) x.1.1) x.1.2) x.2)
noncomputable abbrev K26 : List Ent := ⟨24, false, ⟨S.rTwice, F.rTwice⟩⟩ :: K25
theorem K26_ok : AllOk Try.prog K26 := AllOk.cons rTwice_con K25_ok

noncomputable def rwith' (r : List fl) (n k : Int) (f : fl) : Option (List fl × Int) :=
  
  grd (iLe (imul (iadd (ln (α := fl) []) (ln r)) 40) 140737488355328)
    (grd (iLe 0 k) (grd (iLt k (ln (app [] r))) (some (wr (app [] r) k f, n))))
noncomputable def F.rwith : (List fl × Int) × Int × fl → Option (List fl × Int) := fun x => rwith' x.1.1 x.1.2 x.2.1 x.2.2
theorem rwith_eq : (fun (r : List fl) (n k : Int) (f : fl) => runF Try.prog (handler Try.prog (known K26) A0 0) (handler Try.prog (known K26) A0 3) (A0 31) Try.f31 S.rwith ((r, n), k, f)) = rwith' := by kernel_rfl
theorem rwith_con : ConOk Try.prog 31 ⟨S.rwith, F.rwith⟩ := con_of 3 mix K26_ok Try.func31 (by kernel_rfl) (funext fun x => congrFun (congrFun (congrFun (congrFun (rwith_eq) x.1.1) x.1.2) x.2.1) x.2.2)
noncomputable abbrev K27 : List Ent := ⟨31, false, ⟨S.rwith, F.rwith⟩⟩ :: K26
theorem K27_ok : AllOk Try.prog K27 := AllOk.cons rwith_con K26_ok

noncomputable def rSwap' (r : List fl) (n k m : Int) : Option ((List fl × Int) × Int) :=
  
  bnd (F.rLook ((r, n), k)) fun z ↦
    bnd (F.rLook ((r, n), m)) fun z_1 ↦
      br (bNot (bEq z.2 0)) (some ((r, n), 8))
        (br (bNot (bEq z_1.2 0)) (some ((r, n), 8))
          (bnd (F.rwith ((r, n), k, z_1.1)) fun z_2 ↦ bnd (F.rwith (z_2, m, z.1)) fun z ↦ some (z, 0)))
noncomputable def F.rSwap : (List fl × Int) × Int × Int → Option ((List fl × Int) × Int) := fun x => rSwap' x.1.1 x.1.2 x.2.1 x.2.2
theorem rSwap_eq : (fun (r : List fl) (n k m : Int) => runF Try.prog (handler Try.prog (known K27) A0 0) (handler Try.prog (known K27) A0 3) (A0 25) Try.f25 S.rSwap ((r, n), k, m)) = rSwap' := by kernel_rfl
theorem rSwap_con : ConOk Try.prog 25 ⟨S.rSwap, F.rSwap⟩ := con_of 3 mix K27_ok Try.func25 (by kernel_rfl) (funext fun x => congrFun (congrFun (congrFun (congrFun (rSwap_eq) x.1.1) x.1.2) x.2.1) x.2.2)
noncomputable abbrev K28 : List Ent := ⟨25, false, ⟨S.rSwap, F.rSwap⟩⟩ :: K27
theorem K28_ok : AllOk Try.prog K28 := AllOk.cons rSwap_con K27_ok

noncomputable def rHurt' (r : List fl) (n k m b : Int) : Option ((List fl × Int) × Int) :=
  
  bnd (F.rLook ((r, n), k)) fun z ↦
    br (bNot (bEq z.2 0)) (some ((r, n), z.2))
      (br z.1.2.2 (some ((r, n), 9))
        (br (bLt m 0) (some ((r, n), 2))
          (br (bLe (ln z.1.2.1) m) (some ((r, n), 2))
            (br (bLt b 1) (some ((r, n), 2))
              (br (bLt 255 b) (some ((r, n), 2))
                (grd (iLe (imul (iadd (ln (α := Int) []) (ln z.1.2.1)) 1) 140737488355328)
                  (grd (iLe 0 m)
                    (grd (iLt m (ln (app [] z.1.2.1)))
                      (grd (iLe 0 m)
                        (grd (iLt m (ln (app [] z.1.2.1)))
                          (bnd
                            (F.rwith
                              ((r, n), k, z.1.1,
                                wr (app [] z.1.2.1) m
                                  (bitK BinOp.xor IntKind.u8 (rd (app [] z.1.2.1) m) (wrapK' IntKind.u8 b)),
                                true))
                            fun z ↦ some (z, 0))))))))))))
noncomputable def F.rHurt : (List fl × Int) × Int × Int × Int → Option ((List fl × Int) × Int) := fun x => rHurt' x.1.1 x.1.2 x.2.1 x.2.2.1 x.2.2.2
theorem rHurt_eq : (fun (r : List fl) (n k m b : Int) => runF Try.prog (handler Try.prog (known K28) A0 0) (handler Try.prog (known K28) A0 3) (A0 26) Try.f26 S.rHurt ((r, n), k, m, b)) = rHurt' := by kernel_rfl
theorem rHurt_con : ConOk Try.prog 26 ⟨S.rHurt, F.rHurt⟩ := con_of 3 mix K28_ok Try.func26 (by kernel_rfl) (funext fun x => congrFun (congrFun (congrFun (congrFun (congrFun (rHurt_eq) x.1.1) x.1.2) x.2.1) x.2.2.1) x.2.2.2)
noncomputable abbrev K29 : List Ent := ⟨26, false, ⟨S.rHurt, F.rHurt⟩⟩ :: K28
theorem K29_ok : AllOk Try.prog K29 := AllOk.cons rHurt_con K28_ok

noncomputable def rClear' (r : List fl) (n k : Int) : Option ((List fl × Int) × Int) :=
  
  bnd
    (loopR
      (fun (x : Int × Int × (List fl × Int) × (List fl × Int) × List fl × Int) ↦
        br (bLt x.2.1 (ln x.2.2.1.1))
          (grd (iLe 0 x.2.1)
            (grd (iLt x.2.1 (ln x.2.2.1.1))
              (br (bNot (bEq (rd x.2.2.1.1 x.2.1).1 x.1))
                (grd (iLe 0 x.2.1)
                  (grd (iLt x.2.1 (ln x.2.2.1.1))
                    (grd (iLe (imul (iadd (ln x.2.2.2.2.1) (ln [rd x.2.2.1.1 x.2.1])) 40) 140737488355328)
                      (some
                        (Sum.inl
                          (x.1, w64 (iadd x.2.1 1), x.2.2.1, x.2.2.2.1, app x.2.2.2.2.1 [rd x.2.2.1.1 x.2.1],
                            x.2.2.2.2.2))))))
                (some (Sum.inl (x.1, w64 (iadd x.2.1 1), x.2.2.1, x.2.2.2.1, x.2.2.2.2))))))
          (some (Sum.inr (x.1, x.2.1, x.2.2.1, x.2.2.2.1, x.2.2.2.2))))
      (k, 0, (r, n), ([], 0), [], n))
    fun x ↦ none
noncomputable def F.rClear : (List fl × Int) × Int → Option ((List fl × Int) × Int) := fun x => rClear' x.1.1 x.1.2 x.2
theorem rClear_eq : (fun (r : List fl) (n k : Int) => runF Try.prog (handler Try.prog (known K29) A0 0) (handler Try.prog (known K29) A0 3) (A0 27) Try.f27 S.rTwice ((r, n), k)) = rClear' := by kernel_rfl
theorem rClear_con : ConOk Try.prog 27 ⟨S.rTwice, F.rClear⟩ := con_of 3 mix K29_ok Try.func27 (by kernel_rfl) (funext fun x => congrFun (congrFun (congrFun (rClear_eq) x.1.1) x.1.2) x.2)
noncomputable abbrev K30 : List Ent := ⟨27, false, ⟨S.rTwice, F.rClear⟩⟩ :: K29
theorem K30_ok : AllOk Try.prog K30 := AllOk.cons rClear_con K29_ok

noncomputable def awake'  : Option (Bool) :=
  bnd
  (loopR
    (fun x ↦
      br (bLt x.1 3)
        (bnd (F.Send ((x.1, [wrapK' IntKind.u8 x.1], false), x.2)) fun z ↦
          br (bNot (bEq z.1 0)) (some (Sum.inr (Sum.inr false))) (some (Sum.inl (w64 (iadd x.1 1), z.2))))
        (some (Sum.inr (Sum.inl (x.1, x.2)))))
    (0, [], 0))
  fun o ↦
  Sum.rec
    (fun val ↦
      bnd (F.Take (1, val.2)) fun z ↦
        br (bEq z.2.2.1 0)
          (br (bEq z.1 1)
            (bnd (F.Len z.2.2.2.1) fun z ↦
              br (bEq z.1 2)
                (bnd (F.Hurt (0, 0, 3, z.2)) fun z ↦
                  br (bEq z.1 0) (bnd (F.Hurt (0, 0, 3, z.2)) fun z ↦ some (bEq z.1 9)) (some false))
                (some false))
            (some false))
          (some false))
    (fun val ↦ some val) o
noncomputable def F.awake : Unit → Option (Bool) := fun x => awake' 
theorem awake_eq : (runF Try.prog (handler Try.prog (known K30) A0 0) (handler Try.prog (known K30) A0 3) (A0 6) Try.f6 S.awake ()) = awake' := by kernel_rfl
theorem awake_con : ConOk Try.prog 6 ⟨S.awake, F.awake⟩ := con_of 3 mix K30_ok Try.func6 (by kernel_rfl) (funext fun x => awake_eq)
noncomputable abbrev K31 : List Ent := ⟨6, false, ⟨S.awake, F.awake⟩⟩ :: K30
theorem K31_ok : AllOk Try.prog K31 := AllOk.cons awake_con K30_ok

noncomputable def does' (a0 a1 a2 a3 : Int) (f : fl) (l : List fl) (n : Int) (r : List fl) (m : Int) : Option (Bool × (List fl × Int) × List fl × Int) :=
  
  br (bEq a0 0)
    (bnd (F.rSend ((r, m), f)) fun z ↦
      bnd (F.Send ((f.1, f.2.1, f.2.2), l, n)) fun z_1 ↦ some (bEq z_1.1 z.2, z_1.2, z.1))
    (br (bEq a0 1)
      (bnd (F.rSend ((r, m), f)) fun z ↦
        bnd (F.Send ((f.1, f.2.1, f.2.2), l, n)) fun z_1 ↦ some (bEq z_1.1 z.2, z_1.2, z.1))
      (br (bEq a0 2)
        (bnd (F.rSend ((r, m), f)) fun z ↦
          bnd (F.Send ((f.1, f.2.1, f.2.2), l, n)) fun z_1 ↦ some (bEq z_1.1 z.2, z_1.2, z.1))
        (br (bEq a0 3)
          (bnd (F.Take (a1, l, n)) fun z ↦
            bnd (F.rTake ((r, m), a1)) fun z_1 ↦
              bnd (F.are ((z.1, z.2.2.2.2, z.2.1), z_1.2.1)) fun z_2 ↦
                br z_2 (some (bEq z.2.2.1 z_1.2.2, z.2.2.2.1, z_1.1)) (some (false, z.2.2.2.1, z_1.1)))
          (br (bEq a0 4)
            (bnd (F.rTwice ((r, m), a1)) fun z ↦ bnd (F.Twice (a1, l, n)) fun z_1 ↦ some (bEq z_1.1 z.2, z_1.2, z.1))
            (br (bEq a0 5)
              (bnd (F.rSwap ((r, m), a1, a2)) fun z ↦
                bnd (F.Swap (a1, a2, l, n)) fun z_1 ↦ some (bEq z_1.1 z.2, z_1.2, z.1))
              (br (bEq a0 6)
                (bnd (F.rHurt ((r, m), a1, a2, a3)) fun z ↦
                  bnd (F.Hurt (a1, a2, a3, l, n)) fun z_1 ↦ some (bEq z_1.1 z.2, z_1.2, z.1))
                (br (bEq a0 7)
                  (bnd (F.rClear ((r, m), a2)) fun z ↦
                    bnd (F.Clear (a2, l, n)) fun z_1 ↦ some (bEq z_1.1 z.2, z_1.2, z.1))
                  (some (true, (l, n), r, m)))))))))
noncomputable def F.does : acts × (List fl × Int) × List fl × Int → Option (Bool × (List fl × Int) × List fl × Int) := fun x => does' x.1.1 x.1.2.1 x.1.2.2.1 x.1.2.2.2.1 x.1.2.2.2.2 x.2.1.1 x.2.1.2 x.2.2.1 x.2.2.2
theorem does_eq : (fun (a0 a1 a2 a3 : Int) (f : fl) (l : List fl) (n : Int) (r : List fl) (m : Int) => runF Try.prog (handler Try.prog (known K31) A0 0) (handler Try.prog (known K31) A0 3) (A0 14) Try.f14 S.does ((a0, a1, a2, a3, f), (l, n), r, m)) = does' := by kernel_rfl
theorem does_con : ConOk Try.prog 14 ⟨S.does, F.does⟩ := con_of 3 mix K31_ok Try.func14 (by kernel_rfl) (funext fun x => congrFun (congrFun (congrFun (congrFun (congrFun (congrFun (congrFun (congrFun (congrFun (does_eq) x.1.1) x.1.2.1) x.1.2.2.1) x.1.2.2.2.1) x.1.2.2.2.2) x.2.1.1) x.2.1.2) x.2.2.1) x.2.2.2)
noncomputable abbrev K32 : List Ent := ⟨14, false, ⟨S.does, F.does⟩⟩ :: K31
theorem K32_ok : AllOk Try.prog K32 := AllOk.cons does_con K31_ok

noncomputable def NetHurts' (b : List Int) (l : List acts) : Option (Bool) :=
  
  br (bLt 100 (ln b)) (bnd (F.awake ()) fun z ↦ some z)
    (bnd (F.Send ((0, b, false), [], 0)) fun z ↦
      br (bNot (bEq z.1 0)) (some false)
        (bnd
          (loopR
            (fun x ↦
              br (bLt x.2.2.1 (ln x.2.1))
                (br (bLt x.2.2.1 60)
                  (grd (iLe 0 x.2.2.1)
                    (grd (iLt x.2.2.1 (ln x.2.1))
                      (br (bEq (rd x.2.1 x.2.2.1).1 3)
                        (grd (iLe 0 x.2.2.1)
                          (grd (iLt x.2.2.1 (ln x.2.1))
                            (bnd (F.Take ((rd x.2.1 x.2.2.1).2.1, x.2.2.2)) fun z ↦
                              some (Sum.inl (x.1, x.2.1, w64 (iadd x.2.2.1 1), z.2.2.2.1)))))
                        (br (bEq (rd x.2.1 x.2.2.1).1 4)
                          (grd (iLe 0 x.2.2.1)
                            (grd (iLt x.2.2.1 (ln x.2.1))
                              (bnd (F.Twice ((rd x.2.1 x.2.2.1).2.1, x.2.2.2)) fun z ↦
                                some (Sum.inl (x.1, x.2.1, w64 (iadd x.2.2.1 1), z.2)))))
                          (br (bEq (rd x.2.1 x.2.2.1).1 5)
                            (grd (iLe 0 x.2.2.1)
                              (grd (iLt x.2.2.1 (ln x.2.1))
                                (grd (iLe 0 x.2.2.1)
                                  (grd (iLt x.2.2.1 (ln x.2.1))
                                    (bnd (F.Swap ((rd x.2.1 x.2.2.1).2.1, (rd x.2.1 x.2.2.1).2.2.1, x.2.2.2)) fun z ↦
                                      some (Sum.inl (x.1, x.2.1, w64 (iadd x.2.2.1 1), z.2)))))))
                            (grd (iLe 0 x.2.2.1)
                              (grd (iLt x.2.2.1 (ln x.2.1))
                                (grd (iLe 0 x.2.2.1)
                                  (grd (iLt x.2.2.1 (ln x.2.1))
                                    (grd (iLe 0 x.2.2.1)
                                      (grd (iLt x.2.2.1 (ln x.2.1))
                                        (bnd
                                          (F.Hurt
                                            ((rd x.2.1 x.2.2.1).2.1, (rd x.2.1 x.2.2.1).2.2.1,
                                              (rd x.2.1 x.2.2.1).2.2.2.1, x.2.2.2))
                                          fun z ↦ some (Sum.inl (x.1, x.2.1, w64 (iadd x.2.2.1 1), z.2))))))))))))))
                  (some (Sum.inr (x.1, x.2.1, x.2.2.1, x.2.2.2))))
                (some (Sum.inr (x.1, x.2.1, x.2.2.1, x.2.2.2))))
            (b, l, 0, z.2))
          fun x ↦
          bnd
            (loopR
              (fun x_1 ↦
                bnd (F.Len x_1.2.2) fun z_1 ↦
                  br (bLt x_1.2.1 z_1.1)
                    (bnd (F.Look (x_1.2.1, z_1.2)) fun z_2 ↦
                      bnd
                        (loopR
                          (fun x_2 ↦
                            br (bLt x_2.2.2.2.1 (ln x_2.1))
                              (br (bLt x_2.2.2.2.1 (ln x_2.2.2.2.2.2.2.1))
                                (grd (iLe 0 x_2.2.2.2.1)
                                  (grd (iLt x_2.2.2.2.1 (ln x_2.2.2.2.2.2.2.1))
                                    (grd (iLe 0 x_2.2.2.2.1)
                                      (grd (iLt x_2.2.2.2.1 (ln x_2.1))
                                        (br (bNot (bEq (rd x_2.2.2.2.2.2.2.1 x_2.2.2.2.1) (rd x_2.1 x_2.2.2.2.1)))
                                          (some
                                            (Sum.inl
                                              (x_2.1, x_2.2.1, w64 (iadd x_2.2.2.1 1), w64 (iadd x_2.2.2.2.1 1),
                                                x_2.2.2.2.2.1, x_2.2.2.2.2.2)))
                                          (some
                                            (Sum.inl
                                              (x_2.1, x_2.2.1, x_2.2.2.1, w64 (iadd x_2.2.2.2.1 1), x_2.2.2.2.2.1,
                                                x_2.2.2.2.2.2))))))))
                                (some (Sum.inr (x_2.1, x_2.2.1, x_2.2.2.1, x_2.2.2.2.1, x_2.2.2.2.2.1, x_2.2.2.2.2.2))))
                              (some (Sum.inr (x_2.1, x_2.2.1, x_2.2.2.1, x_2.2.2.2.1, x_2.2.2.2.2.1, x_2.2.2.2.2.2))))
                          (x_1.1, x_1.2.1, 0, 0, z_2.2.2.2.1, z_2.1, z_2.2.2.2.2, z_2.2.1))
                        fun x_2 ↦
                        br (bNot (bEq (ln x_2.2.2.2.2.2.2.1) (ln x_2.1))) (some (Sum.inr (Sum.inr false)))
                          (br (bLt 1 x_2.2.2.1) (some (Sum.inr (Sum.inr false)))
                            (br (bNot (bIff (bEq x_2.2.2.1 1) x_2.2.2.2.2.2.2.2)) (some (Sum.inr (Sum.inr false)))
                              (some (Sum.inl (x_2.1, w64 (iadd x_2.2.1 1), x_2.2.2.2.2.1))))))
                    (some (Sum.inr (Sum.inl (x_1.1, x_1.2.1, z_1.2)))))
              (x.1, 0, x.2.2.2))
            fun o ↦ Sum.rec (fun val ↦ bnd (F.awake ()) fun z ↦ some z) (fun val ↦ some val) o))
noncomputable def F.NetHurts : List Int × List acts → Option (Bool) := fun x => NetHurts' x.1 x.2
theorem NetHurts_eq : (fun (b : List Int) (l : List acts) => runF Try.prog (handler Try.prog (known K32) A0 0) (handler Try.prog (known K32) A0 3) (A0 3) Try.f3 S.NetHurts (b, l)) = NetHurts' := by kernel_rfl
theorem NetHurts_fn : FnOk Try.prog 3 ⟨S.NetHurts, F.NetHurts⟩ := fn_of 3 mix K32_ok Try.func3 (by kernel_rfl) (funext fun x => congrFun (congrFun (NetHurts_eq) x.1) x.2)

noncomputable def NetPlays' (l : List acts) (k : Int) : Option (Bool) :=
  
  bnd
    (loopR
      (fun x ↦
        br (bLt x.2.2.1 (ln x.1))
          (br (bLt x.2.2.1 300)
            (grd (iLe 0 x.2.2.1)
              (grd (iLt x.2.2.1 (ln x.1))
                (br (bLt 60 (ln (rd x.1 x.2.2.1).2.2.2.2.2.1))
                  (bnd (F.awake ()) fun z ↦ some (Sum.inr (Sum.inr z)))
                  (grd (iLe 0 x.2.2.1)
                    (grd (iLt x.2.2.1 (ln x.1))
                      (bnd (F.does (rd x.1 x.2.2.1, x.2.2.2.1, x.2.2.2.2)) fun z ↦
                        br (bNot z.1) (some (Sum.inr (Sum.inr false)))
                          (bnd (F.Len z.2.1) fun z_1 ↦
                            br (bNot (bEq z_1.1 (ln z.2.2.1))) (some (Sum.inr (Sum.inr false)))
                              (bnd (F.Lost z_1.2) fun z_2 ↦
                                br (bNot (bEq z_2.1 z.2.2.2)) (some (Sum.inr (Sum.inr false)))
                                  (some (Sum.inl (x.1, x.2.1, w64 (iadd x.2.2.1 1), z_2.2, z.2.2)))))))))))
            (some (Sum.inr (Sum.inl (x.1, x.2.1, x.2.2.1, x.2.2.2.1, x.2.2.2.2)))))
          (some (Sum.inr (Sum.inl (x.1, x.2.1, x.2.2.1, x.2.2.2.1, x.2.2.2.2)))))
      (l, k, 0, ([], 0), [], 0))
    fun o ↦
    Sum.rec
      (fun val ↦
        bnd
          (loopR
            (fun x ↦
              br (bLt x.2.1 (ln x.2.2.2.1))
                (bnd (F.Look (x.2.1, x.2.2.1)) fun z ↦
                  br (bNot (bEq z.2.2.1 0)) (some (Sum.inr (Sum.inr false)))
                    (grd (iLe 0 x.2.1)
                      (grd (iLt x.2.1 (ln x.2.2.2.1))
                        (bnd (F.are ((z.1, z.2.2.2.2, z.2.1), rd x.2.2.2.1 x.2.1)) fun z_1 ↦
                          br (bNot z_1) (some (Sum.inr (Sum.inr false)))
                            (some (Sum.inl (x.1, w64 (iadd x.2.1 1), z.2.2.2.1, x.2.2.2)))))))
                (some (Sum.inr (Sum.inl (x.1, x.2.1, x.2.2.1, x.2.2.2)))))
            (val.2.1, 0, val.2.2.2.1, val.2.2.2.2))
          fun o ↦
          Sum.rec
            (fun val ↦
              bnd (F.Look (val.1, val.2.2.1)) fun z ↦
                bnd (F.rLook (val.2.2.2, val.1)) fun z_1 ↦
                  bnd (F.are ((z.1, z.2.2.2.2, z.2.1), z_1.1)) fun z_2 ↦
                    br z_2 (br (bEq z.2.2.1 z_1.2) (bnd (F.awake ()) fun z ↦ some z) (some false)) (some false))
            (fun val ↦ some val) o)
      (fun val ↦ some val) o
noncomputable def F.NetPlays : List acts × Int → Option (Bool) := fun x => NetPlays' x.1 x.2
theorem NetPlays_eq : (fun (l : List acts) (k : Int) => runF Try.prog (handler Try.prog (known K32) A0 0) (handler Try.prog (known K32) A0 3) (A0 4) Try.f4 S.NetPlays (l, k)) = NetPlays' := by kernel_rfl
theorem NetPlays_fn : FnOk Try.prog 4 ⟨S.NetPlays, F.NetPlays⟩ := fn_of 3 mix K32_ok Try.func4 (by kernel_rfl) (funext fun x => congrFun (congrFun (NetPlays_eq) x.1) x.2)

noncomputable def NetFull' (f : fl) (k : Int) : Option (Bool) :=
  
  br (bLt 100 (ln f.2.1)) (bnd (F.awake ()) fun z ↦ some z)
    (bnd
      (loopR
        (fun x ↦
          br (bLt x.2.1 256)
            (bnd (F.Send ((x.2.1, x.2.2.1.2.1, false), x.2.2.2)) fun z ↦
              br (bNot (bEq z.1 0)) (some (Sum.inr (Sum.inr false)))
                (some (Sum.inl (x.1, w64 (iadd x.2.1 1), x.2.2.1, z.2))))
            (some (Sum.inr (Sum.inl (x.1, x.2.1, x.2.2.1, x.2.2.2)))))
        (k, 0, f, [], 0))
      fun o ↦
      Sum.rec
        (fun val ↦
          bnd (F.Send ((0, [], false), val.2.2.2)) fun z ↦
            br (bNot (bEq z.1 7)) (some false)
              (bnd (F.Twice (3, z.2)) fun z ↦
                br (bNot (bEq z.1 7)) (some false)
                  (bnd (F.Lost z.2) fun z ↦
                    br (bNot (bEq z.1 2)) (some false)
                      (bnd (F.Len z.2) fun z ↦
                        br (bNot (bEq z.1 256)) (some false)
                          (bnd (F.Clear (7, z.2)) fun z ↦
                            br (bNot (bEq z.1 1)) (some false)
                              (bnd (F.Send ((0, [], false), z.2)) fun z ↦
                                br (bNot (bEq z.1 0)) (some false)
                                  (bnd (F.LookN val.1) fun z ↦
                                    bnd (F.TakeN val.1) fun z_1 ↦
                                      br (bEq z.2 1)
                                        (br (bEq z_1.2 z.2)
                                          (bnd (F.SendN (0, [], false)) fun z_2 ↦
                                            br (bEq z_2 z.2)
                                              (bnd (F.TwiceN val.1) fun z_3 ↦
                                                br (bEq z_3 z.2)
                                                  (bnd (F.SwapN (val.1, val.1)) fun z_4 ↦
                                                    br (bEq z_4 z.2)
                                                      (bnd (F.HurtN (val.1, 0, 1)) fun z_5 ↦
                                                        br (bEq z_5 z.2)
                                                          (bnd (F.ClearN val.1) fun z ↦
                                                            br (bEq z 0)
                                                              (bnd (F.LenN ()) fun z ↦
                                                                bnd (F.LostN ()) fun z_6 ↦
                                                                  br (bEq (w64 (iadd z z_6)) 0)
                                                                    (bnd (F.awake ()) fun z ↦ some z)
                                                                    (some false))
                                                              (some false))
                                                          (some false))
                                                      (some false))
                                                  (some false))
                                              (some false))
                                          (some false))
                                        (some false))))))))
        (fun val ↦ some val) o)
noncomputable def F.NetFull : fl × Int → Option (Bool) := fun x => NetFull' x.1 x.2
theorem NetFull_eq : (fun (f : fl) (k : Int) => runF Try.prog (handler Try.prog (known K32) A0 0) (handler Try.prog (known K32) A0 3) (A0 5) Try.f5 S.NetFull (f, k)) = NetFull' := by kernel_rfl
theorem NetFull_fn : FnOk Try.prog 5 ⟨S.NetFull, F.NetFull⟩ := fn_of 3 mix K32_ok Try.func5 (by kernel_rfl) (funext fun x => congrFun (congrFun (NetFull_eq) x.1) x.2)
end Go.Proofs.Ytocefhfihimjdaa
