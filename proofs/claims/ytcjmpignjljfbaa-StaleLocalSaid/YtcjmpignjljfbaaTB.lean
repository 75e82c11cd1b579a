/- Printed by wip/tools/gen2.py: texts of the loaded functions, as the pure machine tells them, and their plain forms. -/
import Derived.Test.YtcjmpignjljfbaaTA
import Derived.Test.YtcjmpignjljfbaaT39
namespace Go.Proofs.Ytcjmpignjljfbaa
open Go.PM
set_option linter.unusedVariables false
set_option maxRecDepth 100000
noncomputable section
/-! f15 antipode/stale.ago -/
noncomputable abbrev sp15 (F : (Int × Int) → (Int)) : PM.Spec := spF [.one, .one] (Row.cons (Ty.int .i64) (Row.cons (Ty.int .i64) (Row.nil))) (.one) (Row.cons (Ty.int .i64) (Row.nil)) F
noncomputable def fd15 : Body := { code := Try.f15.body.getD .skip, ntmps := Try.f15.ntmps, results := Try.f15.results.toList, hints := fun _ => none }
theorem fn15 : FnOK Try.prog 15 fd15 Try.f15 := ⟨by kernel_rfl, by kernel_rfl, by kernel_rfl, by kernel_rfl, by kernel_rfl⟩
noncomputable def fds15 : List (Nat × Body) := []
noncomputable def cx15 (N : Nat) : Ctx := { ti := tis, spec := PM.look [], n := N }
noncomputable def f15.t (N : Nat) (x : Int × Int) : Option (Int) :=
  bif (decide (x.1 < (IntKind.wrap .i64 ((-9223372036854775808 : Int) + (if (0 : Int) > x.2 then (0 : Int) else x.2))))) then
    some (-9223372036854775808 : Int)
  else
    some (IntKind.wrap .i64 (x.1 - (if (0 : Int) > x.2 then (0 : Int) else x.2)))
theorem f15.run (N : Nat) (x : Int × Int) : PM.runT (rb := Row.cons (Ty.int .i64) (Row.nil)) (cx15 N) (PM.calls (cx15 N) (lookF fds15) 4) fd15 [.one, .one] (.one) (expl (Row.cons (Ty.int .i64) (Row.cons (Ty.int .i64) (Row.nil))) x) = f15.t N x := by kernel_rfl
noncomputable def f15.p (x : Int × Int) : Int :=
  if (decide (x.1 < (IntKind.wrap .i64 ((-9223372036854775808 : Int) + (if (0 : Int) > x.2 then (0 : Int) else x.2))))) then
    (-9223372036854775808 : Int)
  else
    (IntKind.wrap .i64 (x.1 - (if (0 : Int) > x.2 then (0 : Int) else x.2)))
theorem f15.ref (x : Int × Int) : f15.t BIG x = some (f15.p x) := (tot_ite rfl rfl)
theorem f15.spec : SpecOK Try.prog 15 (sp15 f15.p) := specOK_f mx fn15 (cx := cx15 BIG) (fds := lookF fds15) (d := 4) tab specsOK_nil fdsOK_nil (fun x => (f15.run BIG x).trans (f15.ref x))
/-! f7 antipode/stale.Pick -/
noncomputable abbrev sp7 (F : (Int × Int × Int × (List T2) × (List T2)) → Option (Int × Int)) : PM.Spec := spO [.one, .one, .one, .one, .one] (Row.cons (Ty.int .i64) (Row.cons (Ty.int .i64) (Row.cons (Ty.int .i64) (Row.cons (Ty.sl R2) (Row.cons (Ty.sl R2) (Row.nil)))))) (.tup [(false, 1), (false, 1)]) (Row.cons (Ty.int .i64) (Row.cons (Ty.int .i64) (Row.nil))) F
def h7 : Nat → Option Hint
  | 1 => some { tm := [(12, Ty.int .i64, none), (32, Ty.int .i64, none)], bx := [] }
  | 3 => some { tm := [(42, Ty.int .i64, none)], bx := [] }
  | 5 => some { tm := [(52, Ty.int .i64, none)], bx := [] }
  | _ => none
noncomputable def fd7 : Body := { code := Try.f7.body.getD .skip, ntmps := Try.f7.ntmps, results := Try.f7.results.toList, hints := h7 }
theorem fn7 : FnOK Try.prog 7 fd7 Try.f7 := ⟨by kernel_rfl, by kernel_rfl, by kernel_rfl, by kernel_rfl, by kernel_rfl⟩
noncomputable def fds7 : List (Nat × Body) := []
noncomputable def cx7 (F15 : (Int × Int) → (Int)) (N : Nat) : Ctx := { ti := tis, spec := PM.look [(15, sp15 F15)], n := N }
noncomputable def f7.t (F15 : (Int × Int) → (Int)) (N : Nat) (x : Int × Int × Int × (List T2) × (List T2)) : Option (Int × Int) :=
  bif (x.1 == (1 : Int)) then
    loopT N (fun (k2 : (Int) → Option (Int × Int)) (v1 : Int) =>
      bif (decide (v1 < (x.2.2.2.2.length : Int))) then
        bif (decide (0 ≤ v1) && decide (v1 < (x.2.2.2.2.length : Int))) then
        lt (rd R2 x.2.2.2.2 v1) fun e3 =>
        bif (decide (x.2.1 < e3)) then
          some ((0 : Int), (24 : Int))
        else
          k2 (IntKind.wrap .i64 (v1 + (1 : Int)))
        else none
      else
        loopT N (fun (k5 : (Int) → Option (Int × Int)) (v4 : Int) =>
          bif (decide (v4 < (x.2.2.2.1.length : Int))) then
            bif (decide (0 ≤ v4) && decide (v4 < (x.2.2.2.1.length : Int))) then
            lt (rd R2 x.2.2.2.1 v4) fun e6 =>
            bif (decide (x.2.1 > e6)) then
              some ((0 : Int), (23 : Int))
            else
              k5 (IntKind.wrap .i64 (v4 + (1 : Int)))
            else none
          else
            bif (decide (x.2.1 < (-9223372036854775808 : Int))) then
              some ((0 : Int), (23 : Int))
            else
              some (x.2.1, (0 : Int))) ((0 : Int) : Int)) ((0 : Int) : Int)
  else
    bif (x.1 == (2 : Int)) then
      lt ((F15 (x.2.2.1, x.2.1))) fun y7 =>
      loopT N (fun (k9 : (Int × Int) → Option (Int × Int)) (v8 : Int × Int) =>
        bif (decide (v8.2 < (x.2.2.2.1.length : Int))) then
          bif (decide (0 ≤ v8.2) && decide (v8.2 < (x.2.2.2.1.length : Int))) then
          lt (rd R2 x.2.2.2.1 v8.2) fun e10 =>
          k9 ((if e10 < v8.1 then e10 else v8.1), (IntKind.wrap .i64 (v8.2 + (1 : Int))))
          else none
        else
          loopT N (fun (k12 : (Int) → Option (Int × Int)) (v11 : Int) =>
            bif (decide (v11 < (x.2.2.2.2.length : Int))) then
              bif (decide (0 ≤ v11) && decide (v11 < (x.2.2.2.2.length : Int))) then
              lt (rd R2 x.2.2.2.2 v11) fun e13 =>
              bif (decide (v8.1 < e13)) then
                some ((0 : Int), (24 : Int))
              else
                k12 (IntKind.wrap .i64 (v11 + (1 : Int)))
              else none
            else
              loopT N (fun (k15 : (Int) → Option (Int × Int)) (v14 : Int) =>
                bif (decide (v14 < (x.2.2.2.1.length : Int))) then
                  bif (decide (0 ≤ v14) && decide (v14 < (x.2.2.2.1.length : Int))) then
                  lt (rd R2 x.2.2.2.1 v14) fun e16 =>
                  bif (decide (v8.1 > e16)) then
                    some ((0 : Int), (23 : Int))
                  else
                    k15 (IntKind.wrap .i64 (v14 + (1 : Int)))
                  else none
                else
                  bif (decide (v8.1 < y7)) then
                    some ((0 : Int), (23 : Int))
                  else
                    some (v8.1, (0 : Int))) ((0 : Int) : Int)) ((0 : Int) : Int)) ((x.2.2.1, (0 : Int)) : Int × Int)
    else
      some ((0 : Int), (1 : Int))
theorem f7.run (F15 : (Int × Int) → (Int)) (N : Nat) (x : Int × Int × Int × (List T2) × (List T2)) : PM.runT (rb := Row.cons (Ty.int .i64) (Row.cons (Ty.int .i64) (Row.nil))) (cx7 F15 N) (PM.calls (cx7 F15 N) (lookF fds7) 4) fd7 [.one, .one, .one, .one, .one] (.tup [(false, 1), (false, 1)]) (expl (Row.cons (Ty.int .i64) (Row.cons (Ty.int .i64) (Row.cons (Ty.int .i64) (Row.cons (Ty.sl R2) (Row.cons (Ty.sl R2) (Row.nil)))))) x) = f7.t F15 N x := by kernel_rfl
noncomputable def f7.n (x : Int × Int × Int × (List T2) × (List T2)) : Option (Int × Int) :=
  if (x.1 == (1 : Int)) then
    if small x.2.2.2.2 then
    bindE (foldE (fun (a1 : T2) (s1 : Unit) =>
        if (decide (x.2.1 < a1)) then
          Res.ret (some ((0 : Int), (24 : Int)))
        else
          Res.go ()) x.2.2.2.2 ()) fun s1 =>
    if small x.2.2.2.1 then
    bindE (foldE (fun (a4 : T2) (s4 : Unit) =>
        if (decide (x.2.1 > a4)) then
          Res.ret (some ((0 : Int), (23 : Int)))
        else
          Res.go ()) x.2.2.2.1 ()) fun s4 =>
    if (decide (x.2.1 < (-9223372036854775808 : Int))) then
      some ((0 : Int), (23 : Int))
    else
      some (x.2.1, (0 : Int))
    else bot
    else bot
  else
    if (x.1 == (2 : Int)) then
      lt ((f15.p (x.2.2.1, x.2.1))) fun y7 =>
      if small x.2.2.2.1 then
      bindE (foldE (fun (a8 : T2) (s8 : Int) =>
          Res.go (if a8 < s8 then a8 else s8)) x.2.2.2.1 x.2.2.1) fun s8 =>
      if small x.2.2.2.2 then
      bindE (foldE (fun (a11 : T2) (s11 : Unit) =>
          if (decide (s8 < a11)) then
            Res.ret (some ((0 : Int), (24 : Int)))
          else
            Res.go ()) x.2.2.2.2 ()) fun s11 =>
      if small x.2.2.2.1 then
      bindE (foldE (fun (a14 : T2) (s14 : Unit) =>
          if (decide (s8 > a14)) then
            Res.ret (some ((0 : Int), (23 : Int)))
          else
            Res.go ()) x.2.2.2.1 ()) fun s14 =>
      if (decide (s8 < y7)) then
        some ((0 : Int), (23 : Int))
      else
        some (s8, (0 : Int))
      else bot
      else bot
      else bot
    else
      some ((0 : Int), (1 : Int))
theorem f7.ref (x : Int × Int × Int × (List T2) × (List T2)) : RefI id (f7.n x) (f7.t f15.p BIG x) := (RefI.ite (RefI.for rfl (fun (i_ : Int) (s1 : Unit) => (i_ : Int)) (fun hs1 R1 i1 hi1 s1 => RefI.tt (lt_ok hi1) (RefI.tt (idx_ok hi1) (RefI.ltd (rd_ok hi1) (RefI.ite (RefI.ret RefI.some) (RefI.next (mk := fun (i_ : Int) (s1 : Unit) => (i_ : Int)) (next_ok hi1 hs1)))))) (fun R1 s1 => RefI.ff lt_no (RefI.for rfl (fun (i_ : Int) (s4 : Unit) => (i_ : Int)) (fun hs4 R4 i4 hi4 s4 => RefI.tt (lt_ok hi4) (RefI.tt (idx_ok hi4) (RefI.ltd (rd_ok hi4) (RefI.ite (RefI.ret RefI.some) (RefI.next (mk := fun (i_ : Int) (s4 : Unit) => (i_ : Int)) (next_ok hi4 hs4)))))) (fun R4 s4 => RefI.ff lt_no (RefI.ite RefI.some RefI.some))))) (RefI.ite (RefI.lt fun y7 => (RefI.for rfl (fun (i_ : Int) (s8 : Int) => ((s8, i_) : Int × Int)) (fun hs8 R8 i8 hi8 s8 => RefI.tt (lt_ok hi8) (RefI.tt (idx_ok hi8) (RefI.ltd (rd_ok hi8) (RefI.next (mk := fun (i_ : Int) (s8 : Int) => ((s8, i_) : Int × Int)) (next_ok hi8 hs8))))) (fun R8 s8 => RefI.ff lt_no (RefI.for rfl (fun (i_ : Int) (s11 : Unit) => (i_ : Int)) (fun hs11 R11 i11 hi11 s11 => RefI.tt (lt_ok hi11) (RefI.tt (idx_ok hi11) (RefI.ltd (rd_ok hi11) (RefI.ite (RefI.ret RefI.some) (RefI.next (mk := fun (i_ : Int) (s11 : Unit) => (i_ : Int)) (next_ok hi11 hs11)))))) (fun R11 s11 => RefI.ff lt_no (RefI.for rfl (fun (i_ : Int) (s14 : Unit) => (i_ : Int)) (fun hs14 R14 i14 hi14 s14 => RefI.tt (lt_ok hi14) (RefI.tt (idx_ok hi14) (RefI.ltd (rd_ok hi14) (RefI.ite (RefI.ret RefI.some) (RefI.next (mk := fun (i_ : Int) (s14 : Unit) => (i_ : Int)) (next_ok hi14 hs14)))))) (fun R14 s14 => RefI.ff lt_no (RefI.ite RefI.some RefI.some)))))))) RefI.some))
theorem f7.spec : SpecOK Try.prog 7 (sp7 f7.n) := specOK_o mx fn7 (cx := cx7 f15.p BIG) (fds := lookF fds7) (d := 4) tab (specsOK_cons f15.spec specsOK_nil) fdsOK_nil (fun x y h => (f7.run f15.p BIG x).trans (f7.ref x y h))
/-! f16 antipode/antipoderef25.less -/
noncomputable abbrev sp16 (F : (Int × Int) → (Int)) : PM.Spec := spF [.one, .one] (Row.cons (Ty.int .i64) (Row.cons (Ty.int .i64) (Row.nil))) (.one) (Row.cons (Ty.int .i64) (Row.nil)) F
noncomputable def fd16 : Body := { code := Try.f16.body.getD .skip, ntmps := Try.f16.ntmps, results := Try.f16.results.toList, hints := fun _ => none }
theorem fn16 : FnOK Try.prog 16 fd16 Try.f16 := ⟨by kernel_rfl, by kernel_rfl, by kernel_rfl, by kernel_rfl, by kernel_rfl⟩
noncomputable def fds16 : List (Nat × Body) := []
noncomputable def cx16 (N : Nat) : Ctx := { ti := tis, spec := PM.look [], n := N }
noncomputable def f16.t (N : Nat) (x : Int × Int) : Option (Int) :=
  bif (decide (x.1 < (IntKind.wrap .i64 ((-9223372036854775808 : Int) + x.2)))) then
    some (-9223372036854775808 : Int)
  else
    some (IntKind.wrap .i64 (x.1 - x.2))
theorem f16.run (N : Nat) (x : Int × Int) : PM.runT (rb := Row.cons (Ty.int .i64) (Row.nil)) (cx16 N) (PM.calls (cx16 N) (lookF fds16) 4) fd16 [.one, .one] (.one) (expl (Row.cons (Ty.int .i64) (Row.cons (Ty.int .i64) (Row.nil))) x) = f16.t N x := by kernel_rfl
noncomputable def f16.p (x : Int × Int) : Int :=
  if (decide (x.1 < (IntKind.wrap .i64 ((-9223372036854775808 : Int) + x.2)))) then
    (-9223372036854775808 : Int)
  else
    (IntKind.wrap .i64 (x.1 - x.2))
theorem f16.ref (x : Int × Int) : f16.t BIG x = some (f16.p x) := (tot_ite rfl rfl)
theorem f16.spec : SpecOK Try.prog 16 (sp16 f16.p) := specOK_f mx fn16 (cx := cx16 BIG) (fds := lookF fds16) (d := 4) tab specsOK_nil fdsOK_nil (fun x => (f16.run BIG x).trans (f16.ref x))
/-! f8 antipode/antipoderef25.Pick -/
noncomputable abbrev sp8 (F : (Int × Int × Int × (List T2) × (List T2)) → Option (Int × Int)) : PM.Spec := spO [.one, .one, .one, .one, .one] (Row.cons (Ty.int .i64) (Row.cons (Ty.int .i64) (Row.cons (Ty.int .i64) (Row.cons (Ty.sl R2) (Row.cons (Ty.sl R2) (Row.nil)))))) (.tup [(false, 1), (false, 1)]) (Row.cons (Ty.int .i64) (Row.cons (Ty.int .i64) (Row.nil))) F
def h8 : Nat → Option Hint
  | 1 => some { tm := [(12, Ty.int .i64, none), (13, Ty.int .i64, none)], bx := [] }
  | 3 => some { tm := [(14, Ty.int .i64, none)], bx := [] }
  | 5 => some { tm := [(15, Ty.int .i64, none)], bx := [] }
  | _ => none
noncomputable def fd8 : Body := { code := Try.f8.body.getD .skip, ntmps := Try.f8.ntmps, results := Try.f8.results.toList, hints := h8 }
theorem fn8 : FnOK Try.prog 8 fd8 Try.f8 := ⟨by kernel_rfl, by kernel_rfl, by kernel_rfl, by kernel_rfl, by kernel_rfl⟩
noncomputable def fds8 : List (Nat × Body) := []
noncomputable def cx8 (F16 : (Int × Int) → (Int)) (N : Nat) : Ctx := { ti := tis, spec := PM.look [(16, sp16 F16)], n := N }
noncomputable def f8.t (F16 : (Int × Int) → (Int)) (N : Nat) (x : Int × Int × Int × (List T2) × (List T2)) : Option (Int × Int) :=
  bif (x.1 == (1 : Int)) then
    loopT N (fun (k2 : (Int) → Option (Int × Int)) (v1 : Int) =>
      bif (decide (v1 < (x.2.2.2.2.length : Int))) then
        bif (decide (0 ≤ v1) && decide (v1 < (x.2.2.2.2.length : Int))) then
        lt (rd R2 x.2.2.2.2 v1) fun e3 =>
        bif (decide (x.2.1 < e3)) then
          some ((0 : Int), (24 : Int))
        else
          k2 (IntKind.wrap .i64 (v1 + (1 : Int)))
        else none
      else
        loopT N (fun (k5 : (Int) → Option (Int × Int)) (v4 : Int) =>
          bif (decide (v4 < (x.2.2.2.1.length : Int))) then
            bif (decide (0 ≤ v4) && decide (v4 < (x.2.2.2.1.length : Int))) then
            lt (rd R2 x.2.2.2.1 v4) fun e6 =>
            bif (decide (x.2.1 > e6)) then
              some ((0 : Int), (23 : Int))
            else
              k5 (IntKind.wrap .i64 (v4 + (1 : Int)))
            else none
          else
            bif (!(x.1 == (2 : Int)) || true) then
            lt ((F16 (x.2.2.1, (if (0 : Int) > x.2.1 then (0 : Int) else x.2.1)))) fun y7 =>
            bif ((x.1 == (2 : Int)) && (decide (x.2.1 < y7))) then
              some ((0 : Int), (23 : Int))
            else
              some (x.2.1, (0 : Int))
            else none) ((0 : Int) : Int)) ((0 : Int) : Int)
  else
    bif (x.1 == (2 : Int)) then
      loopT N (fun (k9 : (Int × Int) → Option (Int × Int)) (v8 : Int × Int) =>
        bif (decide (v8.2 < (x.2.2.2.1.length : Int))) then
          bif (decide (0 ≤ v8.2) && decide (v8.2 < (x.2.2.2.1.length : Int))) then
          lt (rd R2 x.2.2.2.1 v8.2) fun e10 =>
          k9 ((if e10 < v8.1 then e10 else v8.1), (IntKind.wrap .i64 (v8.2 + (1 : Int))))
          else none
        else
          loopT N (fun (k12 : (Int) → Option (Int × Int)) (v11 : Int) =>
            bif (decide (v11 < (x.2.2.2.2.length : Int))) then
              bif (decide (0 ≤ v11) && decide (v11 < (x.2.2.2.2.length : Int))) then
              lt (rd R2 x.2.2.2.2 v11) fun e13 =>
              bif (decide (v8.1 < e13)) then
                some ((0 : Int), (24 : Int))
              else
                k12 (IntKind.wrap .i64 (v11 + (1 : Int)))
              else none
            else
              loopT N (fun (k15 : (Int) → Option (Int × Int)) (v14 : Int) =>
                bif (decide (v14 < (x.2.2.2.1.length : Int))) then
                  bif (decide (0 ≤ v14) && decide (v14 < (x.2.2.2.1.length : Int))) then
                  lt (rd R2 x.2.2.2.1 v14) fun e16 =>
                  bif (decide (v8.1 > e16)) then
                    some ((0 : Int), (23 : Int))
                  else
                    k15 (IntKind.wrap .i64 (v14 + (1 : Int)))
                  else none
                else
                  bif (!(x.1 == (2 : Int)) || true) then
                  lt ((F16 (x.2.2.1, (if (0 : Int) > x.2.1 then (0 : Int) else x.2.1)))) fun y17 =>
                  bif ((x.1 == (2 : Int)) && (decide (v8.1 < y17))) then
                    some ((0 : Int), (23 : Int))
                  else
                    some (v8.1, (0 : Int))
                  else none) ((0 : Int) : Int)) ((0 : Int) : Int)) ((x.2.2.1, (0 : Int)) : Int × Int)
    else
      some ((0 : Int), (1 : Int))
theorem f8.run (F16 : (Int × Int) → (Int)) (N : Nat) (x : Int × Int × Int × (List T2) × (List T2)) : PM.runT (rb := Row.cons (Ty.int .i64) (Row.cons (Ty.int .i64) (Row.nil))) (cx8 F16 N) (PM.calls (cx8 F16 N) (lookF fds8) 4) fd8 [.one, .one, .one, .one, .one] (.tup [(false, 1), (false, 1)]) (expl (Row.cons (Ty.int .i64) (Row.cons (Ty.int .i64) (Row.cons (Ty.int .i64) (Row.cons (Ty.sl R2) (Row.cons (Ty.sl R2) (Row.nil)))))) x) = f8.t F16 N x := by kernel_rfl
noncomputable def f8.n (x : Int × Int × Int × (List T2) × (List T2)) : Option (Int × Int) :=
  if (x.1 == (1 : Int)) then
    if small x.2.2.2.2 then
    bindE (foldE (fun (a1 : T2) (s1 : Unit) =>
        if (decide (x.2.1 < a1)) then
          Res.ret (some ((0 : Int), (24 : Int)))
        else
          Res.go ()) x.2.2.2.2 ()) fun s1 =>
    if small x.2.2.2.1 then
    bindE (foldE (fun (a4 : T2) (s4 : Unit) =>
        if (decide (x.2.1 > a4)) then
          Res.ret (some ((0 : Int), (23 : Int)))
        else
          Res.go ()) x.2.2.2.1 ()) fun s4 =>
    lt ((f16.p (x.2.2.1, (if (0 : Int) > x.2.1 then (0 : Int) else x.2.1)))) fun y7 =>
    if ((x.1 == (2 : Int)) && (decide (x.2.1 < y7))) then
      some ((0 : Int), (23 : Int))
    else
      some (x.2.1, (0 : Int))
    else bot
    else bot
  else
    if (x.1 == (2 : Int)) then
      if small x.2.2.2.1 then
      bindE (foldE (fun (a8 : T2) (s8 : Int) =>
          Res.go (if a8 < s8 then a8 else s8)) x.2.2.2.1 x.2.2.1) fun s8 =>
      if small x.2.2.2.2 then
      bindE (foldE (fun (a11 : T2) (s11 : Unit) =>
          if (decide (s8 < a11)) then
            Res.ret (some ((0 : Int), (24 : Int)))
          else
            Res.go ()) x.2.2.2.2 ()) fun s11 =>
      if small x.2.2.2.1 then
      bindE (foldE (fun (a14 : T2) (s14 : Unit) =>
          if (decide (s8 > a14)) then
            Res.ret (some ((0 : Int), (23 : Int)))
          else
            Res.go ()) x.2.2.2.1 ()) fun s14 =>
      lt ((f16.p (x.2.2.1, (if (0 : Int) > x.2.1 then (0 : Int) else x.2.1)))) fun y17 =>
      if ((x.1 == (2 : Int)) && (decide (s8 < y17))) then
        some ((0 : Int), (23 : Int))
      else
        some (s8, (0 : Int))
      else bot
      else bot
      else bot
    else
      some ((0 : Int), (1 : Int))
theorem f8.ref (x : Int × Int × Int × (List T2) × (List T2)) : RefI id (f8.n x) (f8.t f16.p BIG x) := (RefI.ite (RefI.for rfl (fun (i_ : Int) (s1 : Unit) => (i_ : Int)) (fun hs1 R1 i1 hi1 s1 => RefI.tt (lt_ok hi1) (RefI.tt (idx_ok hi1) (RefI.ltd (rd_ok hi1) (RefI.ite (RefI.ret RefI.some) (RefI.next (mk := fun (i_ : Int) (s1 : Unit) => (i_ : Int)) (next_ok hi1 hs1)))))) (fun R1 s1 => RefI.ff lt_no (RefI.for rfl (fun (i_ : Int) (s4 : Unit) => (i_ : Int)) (fun hs4 R4 i4 hi4 s4 => RefI.tt (lt_ok hi4) (RefI.tt (idx_ok hi4) (RefI.ltd (rd_ok hi4) (RefI.ite (RefI.ret RefI.some) (RefI.next (mk := fun (i_ : Int) (s4 : Unit) => (i_ : Int)) (next_ok hi4 hs4)))))) (fun R4 s4 => RefI.ff lt_no (RefI.tt (Bool.or_true _) (RefI.lt fun y7 => (RefI.ite RefI.some RefI.some))))))) (RefI.ite (RefI.for rfl (fun (i_ : Int) (s8 : Int) => ((s8, i_) : Int × Int)) (fun hs8 R8 i8 hi8 s8 => RefI.tt (lt_ok hi8) (RefI.tt (idx_ok hi8) (RefI.ltd (rd_ok hi8) (RefI.next (mk := fun (i_ : Int) (s8 : Int) => ((s8, i_) : Int × Int)) (next_ok hi8 hs8))))) (fun R8 s8 => RefI.ff lt_no (RefI.for rfl (fun (i_ : Int) (s11 : Unit) => (i_ : Int)) (fun hs11 R11 i11 hi11 s11 => RefI.tt (lt_ok hi11) (RefI.tt (idx_ok hi11) (RefI.ltd (rd_ok hi11) (RefI.ite (RefI.ret RefI.some) (RefI.next (mk := fun (i_ : Int) (s11 : Unit) => (i_ : Int)) (next_ok hi11 hs11)))))) (fun R11 s11 => RefI.ff lt_no (RefI.for rfl (fun (i_ : Int) (s14 : Unit) => (i_ : Int)) (fun hs14 R14 i14 hi14 s14 => RefI.tt (lt_ok hi14) (RefI.tt (idx_ok hi14) (RefI.ltd (rd_ok hi14) (RefI.ite (RefI.ret RefI.some) (RefI.next (mk := fun (i_ : Int) (s14 : Unit) => (i_ : Int)) (next_ok hi14 hs14)))))) (fun R14 s14 => RefI.ff lt_no (RefI.tt (Bool.or_true _) (RefI.lt fun y17 => (RefI.ite RefI.some RefI.some))))))))) RefI.some))
theorem f8.spec : SpecOK Try.prog 8 (sp8 f8.n) := specOK_o mx fn8 (cx := cx8 f16.p BIG) (fds := lookF fds8) (d := 4) tab (specsOK_cons f16.spec specsOK_nil) fdsOK_nil (fun x y h => (f8.run f16.p BIG x).trans (f8.ref x y h))
/-! f40 cmp.isNaN[int64] -/
noncomputable abbrev sp40 (F : (Int) → (Bool)) : PM.Spec := spF [.one] (Row.cons (Ty.int .i64) (Row.nil)) (.one) (Row.cons (Ty.bool) (Row.nil)) F
noncomputable def fd40 : Body := { code := Try.f40.body.getD .skip, ntmps := Try.f40.ntmps, results := Try.f40.results.toList, hints := fun _ => none }
theorem fn40 : FnOK Try.prog 40 fd40 Try.f40 := ⟨by kernel_rfl, by kernel_rfl, by kernel_rfl, by kernel_rfl, by kernel_rfl⟩
noncomputable def fds40 : List (Nat × Body) := []
noncomputable def cx40 (N : Nat) : Ctx := { ti := tis, spec := PM.look [], n := N }
noncomputable def f40.t (N : Nat) (x : Int) : Option (Bool) :=
  some (x != x)
theorem f40.run (N : Nat) (x : Int) : PM.runT (rb := Row.cons (Ty.bool) (Row.nil)) (cx40 N) (PM.calls (cx40 N) (lookF fds40) 4) fd40 [.one] (.one) (expl (Row.cons (Ty.int .i64) (Row.nil)) x) = f40.t N x := by kernel_rfl
noncomputable def f40.p (x : Int) : Bool :=
  (x != x)
theorem f40.ref (x : Int) : f40.t BIG x = some (f40.p x) := rfl
theorem f40.spec : SpecOK Try.prog 40 (sp40 f40.p) := specOK_f mx fn40 (cx := cx40 BIG) (fds := lookF fds40) (d := 4) tab specsOK_nil fdsOK_nil (fun x => (f40.run BIG x).trans (f40.ref x))
/-! f34 cmp.Compare[int64] -/
noncomputable abbrev sp34 (F : (Int × Int) → (Int)) : PM.Spec := spF [.one, .one] (Row.cons (Ty.int .i64) (Row.cons (Ty.int .i64) (Row.nil))) (.one) (Row.cons (Ty.int .i64) (Row.nil)) F
noncomputable def fd34 : Body := { code := Try.f34.body.getD .skip, ntmps := Try.f34.ntmps, results := Try.f34.results.toList, hints := fun _ => none }
theorem fn34 : FnOK Try.prog 34 fd34 Try.f34 := ⟨by kernel_rfl, by kernel_rfl, by kernel_rfl, by kernel_rfl, by kernel_rfl⟩
noncomputable def fds34 : List (Nat × Body) := []
noncomputable def cx34 (F40 : (Int) → (Bool)) (N : Nat) : Ctx := { ti := tis, spec := PM.look [(40, sp40 F40)], n := N }
noncomputable def f34.t (F40 : (Int) → (Bool)) (N : Nat) (x : Int × Int) : Option (Int) :=
  lt ((F40 x.1)) fun y1 =>
  lt ((F40 x.2)) fun y2 =>
  bif y1 then
    bif y2 then
      some (0 : Int)
    else
      some (-1 : Int)
  else
    bif y2 then
      some (1 : Int)
    else
      bif (decide (x.1 < x.2)) then
        some (-1 : Int)
      else
        bif (decide (x.1 > x.2)) then
          some (1 : Int)
        else
          some (0 : Int)
theorem f34.run (F40 : (Int) → (Bool)) (N : Nat) (x : Int × Int) : PM.runT (rb := Row.cons (Ty.int .i64) (Row.nil)) (cx34 F40 N) (PM.calls (cx34 F40 N) (lookF fds34) 4) fd34 [.one, .one] (.one) (expl (Row.cons (Ty.int .i64) (Row.cons (Ty.int .i64) (Row.nil))) x) = f34.t F40 N x := by kernel_rfl
noncomputable def f34.p (x : Int × Int) : Int :=
  lt ((f40.p x.1)) fun y1 =>
  lt ((f40.p x.2)) fun y2 =>
  if y1 then
    if y2 then
      (0 : Int)
    else
      (-1 : Int)
  else
    if y2 then
      (1 : Int)
    else
      if (decide (x.1 < x.2)) then
        (-1 : Int)
      else
        if (decide (x.1 > x.2)) then
          (1 : Int)
        else
          (0 : Int)
theorem f34.ref (x : Int × Int) : f34.t f40.p BIG x = some (f34.p x) := (tot_lt fun y1 => (tot_lt fun y2 => (tot_ite (tot_ite rfl rfl) (tot_ite rfl (tot_ite rfl (tot_ite rfl rfl))))))
theorem f34.spec : SpecOK Try.prog 34 (sp34 f34.p) := specOK_f mx fn34 (cx := cx34 f40.p BIG) (fds := lookF fds34) (d := 4) tab (specsOK_cons f40.spec specsOK_nil) fdsOK_nil (fun x => (f34.run f40.p BIG x).trans (f34.ref x))
/-! f33 cmp.Or[int] -/
noncomputable abbrev sp33 (F : ((List T3)) → Option (Int)) : PM.Spec := spO [.one] (Row.cons (Ty.sl R3) (Row.nil)) (.one) (Row.cons (Ty.int .i64) (Row.nil)) F
def h33 : Nat → Option Hint
  | 0 => some { tm := [(8, Ty.int .i64, none)], bx := [] }
  | _ => none
noncomputable def fd33 : Body := { code := Try.f33.body.getD .skip, ntmps := Try.f33.ntmps, results := Try.f33.results.toList, hints := h33 }
theorem fn33 : FnOK Try.prog 33 fd33 Try.f33 := ⟨by kernel_rfl, by kernel_rfl, by kernel_rfl, by kernel_rfl, by kernel_rfl⟩
noncomputable def fds33 : List (Nat × Body) := []
noncomputable def cx33 (N : Nat) : Ctx := { ti := tis, spec := PM.look [], n := N }
noncomputable def f33.t (N : Nat) (x : (List T3)) : Option (Int) :=
  loopT N (fun (k2 : (Int) → Option (Int)) (v1 : Int) =>
    bif (decide (v1 < (x.length : Int))) then
      bif (decide (0 ≤ v1) && decide (v1 < (x.length : Int))) then
      lt (rd R3 x v1) fun e3 =>
      bif (e3 != (0 : Int)) then
        some e3
      else
        k2 (IntKind.wrap .i64 (v1 + (1 : Int)))
      else none
    else
      some (0 : Int)) ((0 : Int) : Int)
theorem f33.run (N : Nat) (x : (List T3)) : PM.runT (rb := Row.cons (Ty.int .i64) (Row.nil)) (cx33 N) (PM.calls (cx33 N) (lookF fds33) 4) fd33 [.one] (.one) (expl (Row.cons (Ty.sl R3) (Row.nil)) x) = f33.t N x := by kernel_rfl
noncomputable def f33.n (x : (List T3)) : Option (Int) :=
  if small x then
  bindE (foldE (fun (a1 : T3) (s1 : Unit) =>
      if (a1 != (0 : Int)) then
        Res.ret (some a1)
      else
        Res.go ()) x ()) fun s1 =>
  some (0 : Int)
  else bot
theorem f33.ref (x : (List T3)) : RefI id (f33.n x) (f33.t BIG x) := (RefI.for rfl (fun (i_ : Int) (s1 : Unit) => (i_ : Int)) (fun hs1 R1 i1 hi1 s1 => RefI.tt (lt_ok hi1) (RefI.tt (idx_ok hi1) (RefI.ltd (rd_ok hi1) (RefI.ite (RefI.ret RefI.some) (RefI.next (mk := fun (i_ : Int) (s1 : Unit) => (i_ : Int)) (next_ok hi1 hs1)))))) (fun R1 s1 => RefI.ff lt_no RefI.some))
theorem f33.spec : SpecOK Try.prog 33 (sp33 f33.n) := specOK_o mx fn33 (cx := cx33 BIG) (fds := lookF fds33) (d := 4) tab specsOK_nil fdsOK_nil (fun x y h => (f33.run BIG x).trans (f33.ref x y h))
/-! f27 antipode/stamp.Less -/
noncomputable abbrev sp27 (F : (Int × Int × Int × Int) → Option (Bool)) : PM.Spec := spO [.agg 2, .agg 2] (Row.cons (Ty.int .i64) (Row.cons (Ty.int .i64) (Row.cons (Ty.int .i64) (Row.cons (Ty.int .i64) (Row.nil))))) (.one) (Row.cons (Ty.bool) (Row.nil)) F
noncomputable def fd27 : Body := { code := Try.f27.body.getD .skip, ntmps := Try.f27.ntmps, results := Try.f27.results.toList, hints := fun _ => none }
theorem fn27 : FnOK Try.prog 27 fd27 Try.f27 := ⟨by kernel_rfl, by kernel_rfl, by kernel_rfl, by kernel_rfl, by kernel_rfl⟩
noncomputable def fds27 : List (Nat × Body) := []
noncomputable def cx27 (o33 : ((List T3)) → Option (Int)) (F34 : (Int × Int) → (Int)) (N : Nat) : Ctx := { ti := tis, spec := PM.look [(33, sp33 o33), (34, sp34 F34)], n := N }
noncomputable def f27.t (o33 : ((List T3)) → Option (Int)) (F34 : (Int × Int) → (Int)) (N : Nat) (x : Int × Int × Int × Int) : Option (Bool) :=
  lt ((F34 (x.1, x.2.2.1))) fun y1 =>
  lt ((F34 (x.2.1, x.2.2.2))) fun y2 =>
  bif (ok (o33 ([y1, y2]))) then
  lt ((vl (o33 ([y1, y2])))) fun y3 =>
  some (decide (y3 < (0 : Int)))
  else none
theorem f27.run (o33 : ((List T3)) → Option (Int)) (F34 : (Int × Int) → (Int)) (N : Nat) (x : Int × Int × Int × Int) : PM.runT (rb := Row.cons (Ty.bool) (Row.nil)) (cx27 o33 F34 N) (PM.calls (cx27 o33 F34 N) (lookF fds27) 4) fd27 [.agg 2, .agg 2] (.one) (expl (Row.cons (Ty.int .i64) (Row.cons (Ty.int .i64) (Row.cons (Ty.int .i64) (Row.cons (Ty.int .i64) (Row.nil))))) x) = f27.t o33 F34 N x := by kernel_rfl
noncomputable def f27.n (x : Int × Int × Int × Int) : Option (Bool) :=
  lt ((f34.p (x.1, x.2.2.1))) fun y1 =>
  lt ((f34.p (x.2.1, x.2.2.2))) fun y2 =>
  bindO (f33.n ([y1, y2])) fun y3 =>
  some (decide (y3 < (0 : Int)))
theorem f27.ref (x : Int × Int × Int × Int) : RefI id (f27.n x) (f27.t f33.n f34.p BIG x) := (RefI.lt fun y1 => (RefI.lt fun y2 => (RefI.bindO rfl fun y3 => RefI.some)))
theorem f27.spec : SpecOK Try.prog 27 (sp27 f27.n) := specOK_o mx fn27 (cx := cx27 f33.n f34.p BIG) (fds := lookF fds27) (d := 4) tab (specsOK_cons f33.spec (specsOK_cons f34.spec specsOK_nil)) fdsOK_nil (fun x y h => (f27.run f33.n f34.p BIG x).trans (f27.ref x y h))
/-! f38 antipode/mvcc.find$1 -/
noncomputable abbrev sp38 (F : (ByteArray × (List T65) × Bool × Int × Int × Int × Int × Int × Int × Int × Bool × ByteArray × ByteArray) → (Int)) : PM.Spec := spF [.agg 12, .one] (Row.cons (Ty.str) (Row.cons (Ty.sl R65) (Row.cons (Ty.bool) (Row.cons (Ty.int .i64) (Row.cons (Ty.int .i64) (Row.cons (Ty.int .i64) (Row.cons (Ty.int .i64) (Row.cons (Ty.int .i64) (Row.cons (Ty.int .i64) (Row.cons (Ty.int .i64) (Row.cons (Ty.bool) (Row.cons (Ty.str) (Row.cons (Ty.str) (Row.nil)))))))))))))) (.one) (Row.cons (Ty.int .i64) (Row.nil)) F
noncomputable def fd38 : Body := { code := Try.f38.body.getD .skip, ntmps := Try.f38.ntmps, results := Try.f38.results.toList, hints := fun _ => none }
theorem fn38 : FnOK Try.prog 38 fd38 Try.f38 := ⟨by kernel_rfl, by kernel_rfl, by kernel_rfl, by kernel_rfl, by kernel_rfl⟩
noncomputable def fds38 : List (Nat × Body) := []
noncomputable def cx38 (F39 : (ByteArray × ByteArray) → (Int)) (N : Nat) : Ctx := { ti := tis, spec := PM.look [(39, sp39 F39)], n := N }
noncomputable def f38.t (F39 : (ByteArray × ByteArray) → (Int)) (N : Nat) (x : ByteArray × (List T65) × Bool × Int × Int × Int × Int × Int × Int × Int × Bool × ByteArray × ByteArray) : Option (Int) :=
  lt ((F39 (x.1, x.2.2.2.2.2.2.2.2.2.2.2.2))) fun y1 =>
  some y1
theorem f38.run (F39 : (ByteArray × ByteArray) → (Int)) (N : Nat) (x : ByteArray × (List T65) × Bool × Int × Int × Int × Int × Int × Int × Int × Bool × ByteArray × ByteArray) : PM.runT (rb := Row.cons (Ty.int .i64) (Row.nil)) (cx38 F39 N) (PM.calls (cx38 F39 N) (lookF fds38) 4) fd38 [.agg 12, .one] (.one) (expl (Row.cons (Ty.str) (Row.cons (Ty.sl R65) (Row.cons (Ty.bool) (Row.cons (Ty.int .i64) (Row.cons (Ty.int .i64) (Row.cons (Ty.int .i64) (Row.cons (Ty.int .i64) (Row.cons (Ty.int .i64) (Row.cons (Ty.int .i64) (Row.cons (Ty.int .i64) (Row.cons (Ty.bool) (Row.cons (Ty.str) (Row.cons (Ty.str) (Row.nil)))))))))))))) x) = f38.t F39 N x := by kernel_rfl
noncomputable def f38.p (x : ByteArray × (List T65) × Bool × Int × Int × Int × Int × Int × Int × Int × Bool × ByteArray × ByteArray) : Int :=
  lt ((strCmp (x.1, x.2.2.2.2.2.2.2.2.2.2.2.2))) fun y1 =>
  y1
theorem f38.ref (x : ByteArray × (List T65) × Bool × Int × Int × Int × Int × Int × Int × Int × Bool × ByteArray × ByteArray) : f38.t strCmp BIG x = some (f38.p x) := (tot_lt fun y1 => rfl)
theorem f38.spec : SpecOK Try.prog 38 (sp38 f38.p) := specOK_f mx fn38 (cx := cx38 strCmp BIG) (fds := lookF fds38) (d := 4) tab (specsOK_cons strCmp_spec specsOK_nil) fdsOK_nil (fun x => (f38.run strCmp BIG x).trans (f38.ref x))
/-! f24 antipode/antipoderef6.Less -/
noncomputable abbrev sp24 (F : (Int × Int × Int × Int) → (Bool)) : PM.Spec := spF [.agg 2, .agg 2] (Row.cons (Ty.int .i64) (Row.cons (Ty.int .i64) (Row.cons (Ty.int .i64) (Row.cons (Ty.int .i64) (Row.nil))))) (.one) (Row.cons (Ty.bool) (Row.nil)) F
noncomputable def fd24 : Body := { code := Try.f24.body.getD .skip, ntmps := Try.f24.ntmps, results := Try.f24.results.toList, hints := fun _ => none }
theorem fn24 : FnOK Try.prog 24 fd24 Try.f24 := ⟨by kernel_rfl, by kernel_rfl, by kernel_rfl, by kernel_rfl, by kernel_rfl⟩
noncomputable def fds24 : List (Nat × Body) := []
noncomputable def cx24 (N : Nat) : Ctx := { ti := tis, spec := PM.look [], n := N }
noncomputable def f24.t (N : Nat) (x : Int × Int × Int × Int) : Option (Bool) :=
  some ((decide (x.1 < x.2.2.1)) || ((x.1 == x.2.2.1) && (decide (x.2.1 < x.2.2.2))))
theorem f24.run (N : Nat) (x : Int × Int × Int × Int) : PM.runT (rb := Row.cons (Ty.bool) (Row.nil)) (cx24 N) (PM.calls (cx24 N) (lookF fds24) 4) fd24 [.agg 2, .agg 2] (.one) (expl (Row.cons (Ty.int .i64) (Row.cons (Ty.int .i64) (Row.cons (Ty.int .i64) (Row.cons (Ty.int .i64) (Row.nil))))) x) = f24.t N x := by kernel_rfl
noncomputable def f24.p (x : Int × Int × Int × Int) : Bool :=
  ((decide (x.1 < x.2.2.1)) || ((x.1 == x.2.2.1) && (decide (x.2.1 < x.2.2.2))))
theorem f24.ref (x : Int × Int × Int × Int) : f24.t BIG x = some (f24.p x) := rfl
theorem f24.spec : SpecOK Try.prog 24 (sp24 f24.p) := specOK_f mx fn24 (cx := cx24 BIG) (fds := lookF fds24) (d := 4) tab specsOK_nil fdsOK_nil (fun x => (f24.run BIG x).trans (f24.ref x))
/-! f32 antipode/mvcc.find -/
noncomputable abbrev sp32 (F : ((List T49) × ByteArray) → Option (Int × Bool)) : PM.Spec := spO [.one, .one] (Row.cons (Ty.sl R49) (Row.cons (Ty.str) (Row.nil))) (.tup [(false, 1), (false, 1)]) (Row.cons (Ty.int .i64) (Row.cons (Ty.bool) (Row.nil))) F
noncomputable def fd32 : Body := { code := Try.f32.body.getD .skip, ntmps := Try.f32.ntmps, results := Try.f32.results.toList, hints := fun _ => none }
theorem fn32 : FnOK Try.prog 32 fd32 Try.f32 := ⟨by kernel_rfl, by kernel_rfl, by kernel_rfl, by kernel_rfl, by kernel_rfl⟩
def h32x37 : Nat → Option Hint
  | 0 => some { tm := [(9, Ty.int .i64, none), (10, Ty.int .i64, none)], bx := [] }
  | _ => none
noncomputable def fd32x37 : Body := { code := Try.f37.body.getD .skip, ntmps := Try.f37.ntmps, results := Try.f37.results.toList, hints := h32x37 }
theorem fn32x37 : FnOK Try.prog 37 fd32x37 Try.f37 := ⟨by kernel_rfl, by kernel_rfl, by kernel_rfl, by kernel_rfl, by kernel_rfl⟩
noncomputable def fds32 : List (Nat × Body) := [(37, fd32x37)]
noncomputable def cx32 (F38 : (ByteArray × (List T65) × Bool × Int × Int × Int × Int × Int × Int × Int × Bool × ByteArray × ByteArray) → (Int)) (N : Nat) : Ctx := { ti := tis, spec := PM.look [(38, sp38 F38)], n := N }
noncomputable def f32.t (F38 : (ByteArray × (List T65) × Bool × Int × Int × Int × Int × Int × Int × Int × Bool × ByteArray × ByteArray) → (Int)) (N : Nat) (x : (List T49) × ByteArray) : Option (Int × Bool) :=
  loopT N (fun (k2 : (Int × Int) → Option (Int × Bool)) (v1 : Int × Int) =>
    bif (decide (v1.1 < v1.2)) then
      bif (decide (0 ≤ (1 : Int))) then
      bif (decide (0 ≤ (IntKind.wrap .i64 ((IntKind.wrap .u64 (IntKind.wrap .i64 (v1.1 + v1.2))).fdiv (2 ^ (min (1 : Int).toNat (IntKind.bits .u64)))))) && decide ((IntKind.wrap .i64 ((IntKind.wrap .u64 (IntKind.wrap .i64 (v1.1 + v1.2))).fdiv (2 ^ (min (1 : Int).toNat (IntKind.bits .u64))))) < (x.1.length : Int))) then
      lt (rd R49 x.1 (IntKind.wrap .i64 ((IntKind.wrap .u64 (IntKind.wrap .i64 (v1.1 + v1.2))).fdiv (2 ^ (min (1 : Int).toNat (IntKind.bits .u64)))))) fun e3 =>
      lt ((F38 (e3.1, e3.2.1, e3.2.2.1, e3.2.2.2.1, e3.2.2.2.2.1, e3.2.2.2.2.2.1, e3.2.2.2.2.2.2.1, e3.2.2.2.2.2.2.2.1, e3.2.2.2.2.2.2.2.2.1, e3.2.2.2.2.2.2.2.2.2.1, e3.2.2.2.2.2.2.2.2.2.2.1, e3.2.2.2.2.2.2.2.2.2.2.2, x.2))) fun y4 =>
      bif (decide (y4 < (0 : Int))) then
        k2 ((IntKind.wrap .i64 ((IntKind.wrap .i64 ((IntKind.wrap .u64 (IntKind.wrap .i64 (v1.1 + v1.2))).fdiv (2 ^ (min (1 : Int).toNat (IntKind.bits .u64))))) + (1 : Int))), v1.2)
      else
        k2 (v1.1, (IntKind.wrap .i64 ((IntKind.wrap .u64 (IntKind.wrap .i64 (v1.1 + v1.2))).fdiv (2 ^ (min (1 : Int).toNat (IntKind.bits .u64))))))
      else none
      else none
    else
      bif (!(decide (v1.1 < (x.1.length : Int))) || (decide (0 ≤ v1.1) && decide (v1.1 < (x.1.length : Int)))) then
      lt (rd R49 x.1 v1.1) fun e5 =>
      bif (!(decide (v1.1 < (x.1.length : Int))) || true) then
      lt ((F38 (e5.1, e5.2.1, e5.2.2.1, e5.2.2.2.1, e5.2.2.2.2.1, e5.2.2.2.2.2.1, e5.2.2.2.2.2.2.1, e5.2.2.2.2.2.2.2.1, e5.2.2.2.2.2.2.2.2.1, e5.2.2.2.2.2.2.2.2.2.1, e5.2.2.2.2.2.2.2.2.2.2.1, e5.2.2.2.2.2.2.2.2.2.2.2, x.2))) fun y6 =>
      some (v1.1, ((decide (v1.1 < (x.1.length : Int))) && (y6 == (0 : Int))))
      else none
      else none) (((0 : Int), (x.1.length : Int)) : Int × Int)
theorem f32.run (F38 : (ByteArray × (List T65) × Bool × Int × Int × Int × Int × Int × Int × Int × Bool × ByteArray × ByteArray) → (Int)) (N : Nat) (x : (List T49) × ByteArray) : PM.runT (rb := Row.cons (Ty.int .i64) (Row.cons (Ty.bool) (Row.nil))) (cx32 F38 N) (PM.calls (cx32 F38 N) (lookF fds32) 4) fd32 [.one, .one] (.tup [(false, 1), (false, 1)]) (expl (Row.cons (Ty.sl R49) (Row.cons (Ty.str) (Row.nil))) x) = f32.t F38 N x := by kernel_rfl
noncomputable def f32.n (x : (List T49) × ByteArray) : Option (Int × Bool) :=
  whileE (fun (s1 : Int × Int) =>
    if (decide (s1.1 < s1.2)) then
      if (decide (0 ≤ (IntKind.wrap .i64 ((IntKind.wrap .u64 (IntKind.wrap .i64 (s1.1 + s1.2))).fdiv (2 ^ (min (1 : Int).toNat (IntKind.bits .u64)))))) && decide ((IntKind.wrap .i64 ((IntKind.wrap .u64 (IntKind.wrap .i64 (s1.1 + s1.2))).fdiv (2 ^ (min (1 : Int).toNat (IntKind.bits .u64))))) < (x.1.length : Int))) then
      lt (rd R49 x.1 (IntKind.wrap .i64 ((IntKind.wrap .u64 (IntKind.wrap .i64 (s1.1 + s1.2))).fdiv (2 ^ (min (1 : Int).toNat (IntKind.bits .u64)))))) fun e3 =>
      lt ((f38.p (e3.1, e3.2.1, e3.2.2.1, e3.2.2.2.1, e3.2.2.2.2.1, e3.2.2.2.2.2.1, e3.2.2.2.2.2.2.1, e3.2.2.2.2.2.2.2.1, e3.2.2.2.2.2.2.2.2.1, e3.2.2.2.2.2.2.2.2.2.1, e3.2.2.2.2.2.2.2.2.2.2.1, e3.2.2.2.2.2.2.2.2.2.2.2, x.2))) fun y4 =>
      if (decide (y4 < (0 : Int))) then
        Res.go ((IntKind.wrap .i64 ((IntKind.wrap .i64 ((IntKind.wrap .u64 (IntKind.wrap .i64 (s1.1 + s1.2))).fdiv (2 ^ (min (1 : Int).toNat (IntKind.bits .u64))))) + (1 : Int))), s1.2)
      else
        Res.go (s1.1, (IntKind.wrap .i64 ((IntKind.wrap .u64 (IntKind.wrap .i64 (s1.1 + s1.2))).fdiv (2 ^ (min (1 : Int).toNat (IntKind.bits .u64))))))
      else bot
    else
      if (!(decide (s1.1 < (x.1.length : Int))) || (decide (0 ≤ s1.1) && decide (s1.1 < (x.1.length : Int)))) then
      lt (rd R49 x.1 s1.1) fun e5 =>
      lt ((f38.p (e5.1, e5.2.1, e5.2.2.1, e5.2.2.2.1, e5.2.2.2.2.1, e5.2.2.2.2.2.1, e5.2.2.2.2.2.2.1, e5.2.2.2.2.2.2.2.1, e5.2.2.2.2.2.2.2.2.1, e5.2.2.2.2.2.2.2.2.2.1, e5.2.2.2.2.2.2.2.2.2.2.1, e5.2.2.2.2.2.2.2.2.2.2.2, x.2))) fun y6 =>
      Res.ret (some (s1.1, ((decide (s1.1 < (x.1.length : Int))) && (y6 == (0 : Int)))))
      else bot) BIG ((0 : Int), (x.1.length : Int))
theorem f32.ref (x : (List T49) × ByteArray) : RefI id (f32.n x) (f32.t f38.p BIG x) := (RefI.while rfl (fun (s1 : Int × Int) => (s1 : Int × Int)) (fun R1 s1 => (RefI.ite (RefI.tt rfl (RefI.chk rfl (RefI.lt fun e3 => (RefI.lt fun y4 => (RefI.ite (RefI.go rfl) (RefI.go rfl)))))) (RefI.chk rfl (RefI.lt fun e5 => (RefI.tt (Bool.or_true _) (RefI.lt fun y6 => (RefI.ret RefI.some))))))))
theorem f32.spec : SpecOK Try.prog 32 (sp32 f32.n) := specOK_o mx fn32 (cx := cx32 f38.p BIG) (fds := lookF fds32) (d := 4) tab (specsOK_cons f38.spec specsOK_nil) (fdsOK_cons fn32x37 fdsOK_nil) (fun x y h => (f32.run f38.p BIG x).trans (f32.ref x y h))
/-! f26 antipode/mvcc.within -/
noncomputable abbrev sp26 (F : ((List T49) × ByteArray × ByteArray) → Option ((List T49))) : PM.Spec := spO [.one, .agg 2] (Row.cons (Ty.sl R49) (Row.cons (Ty.str) (Row.cons (Ty.str) (Row.nil)))) (.one) (Row.cons (Ty.sl R49) (Row.nil)) F
noncomputable def fd26 : Body := { code := Try.f26.body.getD .skip, ntmps := Try.f26.ntmps, results := Try.f26.results.toList, hints := fun _ => none }
theorem fn26 : FnOK Try.prog 26 fd26 Try.f26 := ⟨by kernel_rfl, by kernel_rfl, by kernel_rfl, by kernel_rfl, by kernel_rfl⟩
noncomputable def fds26 : List (Nat × Body) := []
noncomputable def cx26 (o32 : ((List T49) × ByteArray) → Option (Int × Bool)) (N : Nat) : Ctx := { ti := tis, spec := PM.look [(32, sp32 o32)], n := N }
noncomputable def f26.t (o32 : ((List T49) × ByteArray) → Option (Int × Bool)) (N : Nat) (x : (List T49) × ByteArray × ByteArray) : Option ((List T49)) :=
  bif (Op.bytesLess x.2.2.toList x.2.1.toList || x.2.2.toList == x.2.1.toList) then
    some ([])
  else
    bif (ok (o32 (x.1, x.2.1))) then
    lt ((vl (o32 (x.1, x.2.1)))) fun y1 =>
    bif (ok (o32 (x.1, x.2.2))) then
    lt ((vl (o32 (x.1, x.2.2)))) fun y2 =>
    bif (decide (0 ≤ y1.1) && (decide (y1.1 ≤ (if y1.1 > y2.1 then y1.1 else y2.1)) && decide ((if y1.1 > y2.1 then y1.1 else y2.1) ≤ (x.1.length : Int)))) then
    some ((x.1.take (if y1.1 > y2.1 then y1.1 else y2.1).toNat).drop y1.1.toNat)
    else none
    else none
    else none
theorem f26.run (o32 : ((List T49) × ByteArray) → Option (Int × Bool)) (N : Nat) (x : (List T49) × ByteArray × ByteArray) : PM.runT (rb := Row.cons (Ty.sl R49) (Row.nil)) (cx26 o32 N) (PM.calls (cx26 o32 N) (lookF fds26) 4) fd26 [.one, .agg 2] (.one) (expl (Row.cons (Ty.sl R49) (Row.cons (Ty.str) (Row.cons (Ty.str) (Row.nil)))) x) = f26.t o32 N x := by kernel_rfl
noncomputable def f26.n (x : (List T49) × ByteArray × ByteArray) : Option ((List T49)) :=
  if (Op.bytesLess x.2.2.toList x.2.1.toList || x.2.2.toList == x.2.1.toList) then
    some ([])
  else
    bindO (f32.n (x.1, x.2.1)) fun y1 =>
    bindO (f32.n (x.1, x.2.2)) fun y2 =>
    if (decide (0 ≤ y1.1) && (decide (y1.1 ≤ (if y1.1 > y2.1 then y1.1 else y2.1)) && decide ((if y1.1 > y2.1 then y1.1 else y2.1) ≤ (x.1.length : Int)))) then
    some ((x.1.take (if y1.1 > y2.1 then y1.1 else y2.1).toNat).drop y1.1.toNat)
    else bot
theorem f26.ref (x : (List T49) × ByteArray × ByteArray) : RefI id (f26.n x) (f26.t f32.n BIG x) := (RefI.ite RefI.some (RefI.bindO rfl fun y1 => (RefI.bindO rfl fun y2 => (RefI.chk rfl RefI.some))))
theorem f26.spec : SpecOK Try.prog 26 (sp26 f26.n) := specOK_o mx fn26 (cx := cx26 f32.n BIG) (fds := lookF fds26) (d := 4) tab (specsOK_cons f32.spec specsOK_nil) fdsOK_nil (fun x y h => (f26.run f32.n BIG x).trans (f26.ref x y h))
/-! f35 antipode/mvcc.last -/
noncomputable abbrev sp35 (F : ((List T65) × Int × Int) → Option (Int)) : PM.Spec := spO [.one, .agg 2] (Row.cons (Ty.sl R65) (Row.cons (Ty.int .i64) (Row.cons (Ty.int .i64) (Row.nil)))) (.one) (Row.cons (Ty.int .i64) (Row.nil)) F
def h35 : Nat → Option Hint
  | 0 => some { tm := [(5, Ty.int .i64, none)], bx := [] }
  | _ => none
noncomputable def fd35 : Body := { code := Try.f35.body.getD .skip, ntmps := Try.f35.ntmps, results := Try.f35.results.toList, hints := h35 }
theorem fn35 : FnOK Try.prog 35 fd35 Try.f35 := ⟨by kernel_rfl, by kernel_rfl, by kernel_rfl, by kernel_rfl, by kernel_rfl⟩
noncomputable def fds35 : List (Nat × Body) := []
noncomputable def cx35 (o27 : (Int × Int × Int × Int) → Option (Bool)) (N : Nat) : Ctx := { ti := tis, spec := PM.look [(27, sp27 o27)], n := N }
noncomputable def f35.t (o27 : (Int × Int × Int × Int) → Option (Bool)) (N : Nat) (x : (List T65) × Int × Int) : Option (Int) :=
  loopT N (fun (k2 : (Int) → Option (Int)) (v1 : Int) =>
    bif (decide (v1 ≥ (0 : Int))) then
      bif (decide (0 ≤ v1) && decide (v1 < (x.1.length : Int))) then
      lt (rd R65 x.1 v1) fun e3 =>
      bif (ok (o27 (x.2.1, x.2.2, e3.1, e3.2.1))) then
      lt ((vl (o27 (x.2.1, x.2.2, e3.1, e3.2.1)))) fun y4 =>
      bif (!y4) then
        some v1
      else
        k2 (IntKind.wrap .i64 (v1 - (1 : Int)))
      else none
      else none
    else
      some (-1 : Int)) ((IntKind.wrap .i64 ((x.1.length : Int) - (1 : Int))) : Int)
theorem f35.run (o27 : (Int × Int × Int × Int) → Option (Bool)) (N : Nat) (x : (List T65) × Int × Int) : PM.runT (rb := Row.cons (Ty.int .i64) (Row.nil)) (cx35 o27 N) (PM.calls (cx35 o27 N) (lookF fds35) 4) fd35 [.one, .agg 2] (.one) (expl (Row.cons (Ty.sl R65) (Row.cons (Ty.int .i64) (Row.cons (Ty.int .i64) (Row.nil)))) x) = f35.t o27 N x := by kernel_rfl
noncomputable def f35.n (x : (List T65) × Int × Int) : Option (Int) :=
  whileE (fun (s1 : Int) =>
    if (decide (s1 ≥ (0 : Int))) then
      if (decide (0 ≤ s1) && decide (s1 < (x.1.length : Int))) then
      lt (rd R65 x.1 s1) fun e3 =>
      bindO (f27.n (x.2.1, x.2.2, e3.1, e3.2.1)) fun y4 =>
      if (!y4) then
        Res.ret (some s1)
      else
        Res.go (IntKind.wrap .i64 (s1 - (1 : Int)))
      else bot
    else
      Res.ret (some (-1 : Int))) BIG (IntKind.wrap .i64 ((x.1.length : Int) - (1 : Int)))
theorem f35.ref (x : (List T65) × Int × Int) : RefI id (f35.n x) (f35.t f27.n BIG x) := (RefI.while rfl (fun (s1 : Int) => (s1 : Int)) (fun R1 s1 => (RefI.ite (RefI.chk rfl (RefI.lt fun e3 => (RefI.bindO rfl fun y4 => (RefI.ite (RefI.ret RefI.some) (RefI.go rfl))))) (RefI.ret RefI.some))))
theorem f35.spec : SpecOK Try.prog 35 (sp35 f35.n) := specOK_o mx fn35 (cx := cx35 f27.n BIG) (fds := lookF fds35) (d := 4) tab (specsOK_cons f27.spec specsOK_nil) fdsOK_nil (fun x y h => (f35.run f27.n BIG x).trans (f35.ref x y h))
/-! f28 antipode/mvcc.tells -/
noncomputable abbrev sp28 (F : (ByteArray × (List T65) × Bool × Int × Int × Int × Int × Int × Int × Int × Bool × ByteArray × Int × Int) → Option (ByteArray × Bool)) : PM.Spec := spO [.agg 12, .agg 2] (Row.cons (Ty.str) (Row.cons (Ty.sl R65) (Row.cons (Ty.bool) (Row.cons (Ty.int .i64) (Row.cons (Ty.int .i64) (Row.cons (Ty.int .i64) (Row.cons (Ty.int .i64) (Row.cons (Ty.int .i64) (Row.cons (Ty.int .i64) (Row.cons (Ty.int .i64) (Row.cons (Ty.bool) (Row.cons (Ty.str) (Row.cons (Ty.int .i64) (Row.cons (Ty.int .i64) (Row.nil))))))))))))))) (.tup [(false, 1), (false, 1)]) (Row.cons (Ty.str) (Row.cons (Ty.bool) (Row.nil))) F
noncomputable def fd28 : Body := { code := Try.f28.body.getD .skip, ntmps := Try.f28.ntmps, results := Try.f28.results.toList, hints := fun _ => none }
theorem fn28 : FnOK Try.prog 28 fd28 Try.f28 := ⟨by kernel_rfl, by kernel_rfl, by kernel_rfl, by kernel_rfl, by kernel_rfl⟩
noncomputable def fds28 : List (Nat × Body) := []
noncomputable def cx28 (o35 : ((List T65) × Int × Int) → Option (Int)) (N : Nat) : Ctx := { ti := tis, spec := PM.look [(35, sp35 o35)], n := N }
noncomputable def f28.t (o35 : ((List T65) × Int × Int) → Option (Int)) (N : Nat) (x : ByteArray × (List T65) × Bool × Int × Int × Int × Int × Int × Int × Int × Bool × ByteArray × Int × Int) : Option (ByteArray × Bool) :=
  bif (ok (o35 (x.2.1, x.2.2.2.2.2.2.2.2.2.2.2.2))) then
  lt ((vl (o35 (x.2.1, x.2.2.2.2.2.2.2.2.2.2.2.2)))) fun y1 =>
  bif (!(!(decide (y1 < (0 : Int)))) || (decide (0 ≤ y1) && decide (y1 < (x.2.1.length : Int)))) then
  lt (rd R65 x.2.1 y1) fun e2 =>
  bif ((decide (y1 < (0 : Int))) || e2.2.2.1) then
    some (({ data := #[] } : ByteArray), false)
  else
    bif (decide (0 ≤ y1) && decide (y1 < (x.2.1.length : Int))) then
    some (e2.2.2.2, true)
    else none
  else none
  else none
theorem f28.run (o35 : ((List T65) × Int × Int) → Option (Int)) (N : Nat) (x : ByteArray × (List T65) × Bool × Int × Int × Int × Int × Int × Int × Int × Bool × ByteArray × Int × Int) : PM.runT (rb := Row.cons (Ty.str) (Row.cons (Ty.bool) (Row.nil))) (cx28 o35 N) (PM.calls (cx28 o35 N) (lookF fds28) 4) fd28 [.agg 12, .agg 2] (.tup [(false, 1), (false, 1)]) (expl (Row.cons (Ty.str) (Row.cons (Ty.sl R65) (Row.cons (Ty.bool) (Row.cons (Ty.int .i64) (Row.cons (Ty.int .i64) (Row.cons (Ty.int .i64) (Row.cons (Ty.int .i64) (Row.cons (Ty.int .i64) (Row.cons (Ty.int .i64) (Row.cons (Ty.int .i64) (Row.cons (Ty.bool) (Row.cons (Ty.str) (Row.cons (Ty.int .i64) (Row.cons (Ty.int .i64) (Row.nil))))))))))))))) x) = f28.t o35 N x := by kernel_rfl
noncomputable def f28.n (x : ByteArray × (List T65) × Bool × Int × Int × Int × Int × Int × Int × Int × Bool × ByteArray × Int × Int) : Option (ByteArray × Bool) :=
  bindO (f35.n (x.2.1, x.2.2.2.2.2.2.2.2.2.2.2.2)) fun y1 =>
  if (!(!(decide (y1 < (0 : Int)))) || (decide (0 ≤ y1) && decide (y1 < (x.2.1.length : Int)))) then
  lt (rd R65 x.2.1 y1) fun e2 =>
  if ((decide (y1 < (0 : Int))) || e2.2.2.1) then
    some (({ data := #[] } : ByteArray), false)
  else
    if (decide (0 ≤ y1) && decide (y1 < (x.2.1.length : Int))) then
    some (e2.2.2.2, true)
    else bot
  else bot
theorem f28.ref (x : ByteArray × (List T65) × Bool × Int × Int × Int × Int × Int × Int × Int × Bool × ByteArray × Int × Int) : RefI id (f28.n x) (f28.t f35.n BIG x) := (RefI.bindO rfl fun y1 => (RefI.chk rfl (RefI.lt fun e2 => (RefI.ite RefI.some (RefI.chk rfl RefI.some)))))
theorem f28.spec : SpecOK Try.prog 28 (sp28 f28.n) := specOK_o mx fn28 (cx := cx28 f35.n BIG) (fds := lookF fds28) (d := 4) tab (specsOK_cons f35.spec specsOK_nil) fdsOK_nil (fun x y h => (f28.run f35.n BIG x).trans (f28.ref x y h))
/-! f36 antipode/antipoderef8.of -/
noncomputable abbrev sp36 (F : (ByteArray × (List T65) × Bool × Int × Int × Int × Int × Int × Int × Int × Bool × ByteArray × Int × Int) → Option (ByteArray × Bool)) : PM.Spec := spO [.agg 12, .agg 2] (Row.cons (Ty.str) (Row.cons (Ty.sl R65) (Row.cons (Ty.bool) (Row.cons (Ty.int .i64) (Row.cons (Ty.int .i64) (Row.cons (Ty.int .i64) (Row.cons (Ty.int .i64) (Row.cons (Ty.int .i64) (Row.cons (Ty.int .i64) (Row.cons (Ty.int .i64) (Row.cons (Ty.bool) (Row.cons (Ty.str) (Row.cons (Ty.int .i64) (Row.cons (Ty.int .i64) (Row.nil))))))))))))))) (.tup [(false, 1), (false, 1)]) (Row.cons (Ty.str) (Row.cons (Ty.bool) (Row.nil))) F
def h36 : Nat → Option Hint
  | 0 => some { tm := [(6, Ty.str, none), (7, Ty.bool, none), (8, Ty.int .i64, none)], bx := [] }
  | _ => none
noncomputable def fd36 : Body := { code := Try.f36.body.getD .skip, ntmps := Try.f36.ntmps, results := Try.f36.results.toList, hints := h36 }
theorem fn36 : FnOK Try.prog 36 fd36 Try.f36 := ⟨by kernel_rfl, by kernel_rfl, by kernel_rfl, by kernel_rfl, by kernel_rfl⟩
noncomputable def fds36 : List (Nat × Body) := []
noncomputable def cx36 (F24 : (Int × Int × Int × Int) → (Bool)) (N : Nat) : Ctx := { ti := tis, spec := PM.look [(24, sp24 F24)], n := N }
noncomputable def f36.t (F24 : (Int × Int × Int × Int) → (Bool)) (N : Nat) (x : ByteArray × (List T65) × Bool × Int × Int × Int × Int × Int × Int × Int × Bool × ByteArray × Int × Int) : Option (ByteArray × Bool) :=
  loopT N (fun (k2 : (ByteArray × Bool × Int) → Option (ByteArray × Bool)) (v1 : ByteArray × Bool × Int) =>
    bif (decide (v1.2.2 < (x.2.1.length : Int))) then
      bif (decide (0 ≤ v1.2.2) && decide (v1.2.2 < (x.2.1.length : Int))) then
      lt (rd R65 x.2.1 v1.2.2) fun e3 =>
      lt ((F24 (x.2.2.2.2.2.2.2.2.2.2.2.2.1, x.2.2.2.2.2.2.2.2.2.2.2.2.2, e3.1, e3.2.1))) fun y4 =>
      bif (!y4) then
        k2 (e3.2.2.2, (!e3.2.2.1), (IntKind.wrap .i64 (v1.2.2 + (1 : Int))))
      else
        k2 (v1.1, v1.2.1, (IntKind.wrap .i64 (v1.2.2 + (1 : Int))))
      else none
    else
      bif (!v1.2.1) then
        some (({ data := #[] } : ByteArray), false)
      else
        some (v1.1, true)) ((({ data := #[] } : ByteArray), false, (0 : Int)) : ByteArray × Bool × Int)
theorem f36.run (F24 : (Int × Int × Int × Int) → (Bool)) (N : Nat) (x : ByteArray × (List T65) × Bool × Int × Int × Int × Int × Int × Int × Int × Bool × ByteArray × Int × Int) : PM.runT (rb := Row.cons (Ty.str) (Row.cons (Ty.bool) (Row.nil))) (cx36 F24 N) (PM.calls (cx36 F24 N) (lookF fds36) 4) fd36 [.agg 12, .agg 2] (.tup [(false, 1), (false, 1)]) (expl (Row.cons (Ty.str) (Row.cons (Ty.sl R65) (Row.cons (Ty.bool) (Row.cons (Ty.int .i64) (Row.cons (Ty.int .i64) (Row.cons (Ty.int .i64) (Row.cons (Ty.int .i64) (Row.cons (Ty.int .i64) (Row.cons (Ty.int .i64) (Row.cons (Ty.int .i64) (Row.cons (Ty.bool) (Row.cons (Ty.str) (Row.cons (Ty.int .i64) (Row.cons (Ty.int .i64) (Row.nil))))))))))))))) x) = f36.t F24 N x := by kernel_rfl
noncomputable def f36.n (x : ByteArray × (List T65) × Bool × Int × Int × Int × Int × Int × Int × Int × Bool × ByteArray × Int × Int) : Option (ByteArray × Bool) :=
  if small x.2.1 then
  bindE (foldE (fun (a1 : T65) (s1 : ByteArray × Bool) =>
      lt ((f24.p (x.2.2.2.2.2.2.2.2.2.2.2.2.1, x.2.2.2.2.2.2.2.2.2.2.2.2.2, a1.1, a1.2.1))) fun y4 =>
      if (!y4) then
        Res.go (a1.2.2.2, (!a1.2.2.1))
      else
        Res.go s1) x.2.1 (({ data := #[] } : ByteArray), false)) fun s1 =>
  if (!s1.2) then
    some (({ data := #[] } : ByteArray), false)
  else
    some (s1.1, true)
  else bot
theorem f36.ref (x : ByteArray × (List T65) × Bool × Int × Int × Int × Int × Int × Int × Int × Bool × ByteArray × Int × Int) : RefI id (f36.n x) (f36.t f24.p BIG x) := (RefI.for rfl (fun (i_ : Int) (s1 : ByteArray × Bool) => ((s1.1, s1.2, i_) : ByteArray × Bool × Int)) (fun hs1 R1 i1 hi1 s1 => RefI.tt (lt_ok hi1) (RefI.tt (idx_ok hi1) (RefI.ltd (rd_ok hi1) (RefI.lt fun y4 => (RefI.ite (RefI.next (mk := fun (i_ : Int) (s1 : ByteArray × Bool) => ((s1.1, s1.2, i_) : ByteArray × Bool × Int)) (next_ok hi1 hs1)) (RefI.next (mk := fun (i_ : Int) (s1 : ByteArray × Bool) => ((s1.1, s1.2, i_) : ByteArray × Bool × Int)) (next_ok hi1 hs1))))))) (fun R1 s1 => RefI.ff lt_no (RefI.ite RefI.some RefI.some)))
theorem f36.spec : SpecOK Try.prog 36 (sp36 f36.n) := specOK_o mx fn36 (cx := cx36 f24.p BIG) (fds := lookF fds36) (d := 4) tab (specsOK_cons f24.spec specsOK_nil) fdsOK_nil (fun x y h => (f36.run f24.p BIG x).trans (f36.ref x y h))
/-! f25 antipode/antipoderef23.Find -/
noncomputable abbrev sp25 (F : ((List T68) × Int × Int × Int × Int) → Option (Int × Int × Int × Int × Int × Int × Bool × Bool)) : PM.Spec := spO [.one, .agg 4] (Row.cons (Ty.sl R68) (Row.cons (Ty.int .i64) (Row.cons (Ty.int .i64) (Row.cons (Ty.int .i64) (Row.cons (Ty.int .i64) (Row.nil)))))) (.tup [(true, 7), (false, 1)]) (Row.cons (Ty.int .i64) (Row.cons (Ty.int .i64) (Row.cons (Ty.int .i64) (Row.cons (Ty.int .i64) (Row.cons (Ty.int .i64) (Row.cons (Ty.int .i64) (Row.cons (Ty.bool) (Row.cons (Ty.bool) (Row.nil))))))))) F
def h25 : Nat → Option Hint
  | 0 => some { tm := [(6, Ty.int .i64, none)], bx := [(1, 0, Ty.int .i64, none), (1, 1, Ty.int .i64, none), (1, 2, Ty.int .i64, none), (1, 3, Ty.int .i64, none), (1, 4, Ty.int .i64, none), (1, 5, Ty.int .i64, none), (1, 6, Ty.bool, none)] }
  | _ => none
noncomputable def fd25 : Body := { code := Try.f25.body.getD .skip, ntmps := Try.f25.ntmps, results := Try.f25.results.toList, hints := h25 }
theorem fn25 : FnOK Try.prog 25 fd25 Try.f25 := ⟨by kernel_rfl, by kernel_rfl, by kernel_rfl, by kernel_rfl, by kernel_rfl⟩
noncomputable def fds25 : List (Nat × Body) := []
noncomputable def cx25 (N : Nat) : Ctx := { ti := tis, spec := PM.look [], n := N }
noncomputable def f25.t (N : Nat) (x : (List T68) × Int × Int × Int × Int) : Option (Int × Int × Int × Int × Int × Int × Bool × Bool) :=
  loopT N (fun (k2 : (Int × Int × Int × Int × Int × Int × Int × Bool) → Option (Int × Int × Int × Int × Int × Int × Bool × Bool)) (v1 : Int × Int × Int × Int × Int × Int × Int × Bool) =>
    bif (decide (v1.1 < (x.1.length : Int))) then
      bif (decide (0 ≤ v1.1) && decide (v1.1 < (x.1.length : Int))) then
      lt (rd R68 x.1 v1.1) fun e3 =>
      bif ((e3.1 == x.2.1) && ((e3.2.1 == x.2.2.1) && ((e3.2.2.1 == x.2.2.2.1) && (e3.2.2.2.1 == x.2.2.2.2)))) then
        bif (decide (0 ≤ v1.1) && decide (v1.1 < (x.1.length : Int))) then
        some (e3.1, e3.2.1, e3.2.2.1, e3.2.2.2.1, e3.2.2.2.2.1, e3.2.2.2.2.2.1, e3.2.2.2.2.2.2, true)
        else none
      else
        k2 ((IntKind.wrap .i64 (v1.1 + (1 : Int))), v1.2)
      else none
    else
      some ((0 : Int), (0 : Int), (0 : Int), (0 : Int), (0 : Int), (0 : Int), false, false)) (((0 : Int), (0 : Int), (0 : Int), (0 : Int), (0 : Int), (0 : Int), (0 : Int), false) : Int × Int × Int × Int × Int × Int × Int × Bool)
theorem f25.run (N : Nat) (x : (List T68) × Int × Int × Int × Int) : PM.runT (rb := Row.cons (Ty.int .i64) (Row.cons (Ty.int .i64) (Row.cons (Ty.int .i64) (Row.cons (Ty.int .i64) (Row.cons (Ty.int .i64) (Row.cons (Ty.int .i64) (Row.cons (Ty.bool) (Row.cons (Ty.bool) (Row.nil))))))))) (cx25 N) (PM.calls (cx25 N) (lookF fds25) 4) fd25 [.one, .agg 4] (.tup [(true, 7), (false, 1)]) (expl (Row.cons (Ty.sl R68) (Row.cons (Ty.int .i64) (Row.cons (Ty.int .i64) (Row.cons (Ty.int .i64) (Row.cons (Ty.int .i64) (Row.nil)))))) x) = f25.t N x := by kernel_rfl
noncomputable def f25.n (x : (List T68) × Int × Int × Int × Int) : Option (Int × Int × Int × Int × Int × Int × Bool × Bool) :=
  if small x.1 then
  bindE (foldE (fun (a1 : T68) (s1 : Unit) =>
      if ((a1.1 == x.2.1) && ((a1.2.1 == x.2.2.1) && ((a1.2.2.1 == x.2.2.2.1) && (a1.2.2.2.1 == x.2.2.2.2)))) then
        Res.ret (some (a1.1, a1.2.1, a1.2.2.1, a1.2.2.2.1, a1.2.2.2.2.1, a1.2.2.2.2.2.1, a1.2.2.2.2.2.2, true))
      else
        Res.go ()) x.1 ()) fun s1 =>
  some ((0 : Int), (0 : Int), (0 : Int), (0 : Int), (0 : Int), (0 : Int), false, false)
  else bot
theorem f25.ref (x : (List T68) × Int × Int × Int × Int) : RefI id (f25.n x) (f25.t BIG x) := (RefI.for rfl (fun (i_ : Int) (s1 : Unit) => ((i_, (0 : Int), (0 : Int), (0 : Int), (0 : Int), (0 : Int), (0 : Int), false) : Int × Int × Int × Int × Int × Int × Int × Bool)) (fun hs1 R1 i1 hi1 s1 => RefI.tt (lt_ok hi1) (RefI.tt (idx_ok hi1) (RefI.ltd (rd_ok hi1) (RefI.ite (RefI.tt (idx_ok hi1) (RefI.ret RefI.some)) (RefI.next (mk := fun (i_ : Int) (s1 : Unit) => ((i_, (0 : Int), (0 : Int), (0 : Int), (0 : Int), (0 : Int), (0 : Int), false) : Int × Int × Int × Int × Int × Int × Int × Bool)) (next_ok hi1 hs1)))))) (fun R1 s1 => RefI.ff lt_no RefI.some))
theorem f25.spec : SpecOK Try.prog 25 (sp25 f25.n) := specOK_o mx fn25 (cx := cx25 BIG) (fds := lookF fds25) (d := 4) tab specsOK_nil fdsOK_nil (fun x y h => (f25.run BIG x).trans (f25.ref x y h))
/-! f19 antipode/antipoderef23.once -/
noncomputable abbrev sp19 (F : ((List T68)) → Option (Bool)) : PM.Spec := spO [.one] (Row.cons (Ty.sl R68) (Row.nil)) (.one) (Row.cons (Ty.bool) (Row.nil)) F
def h19 : Nat → Option Hint
  | 0 => some { tm := [(3, Ty.int .i64, none)], bx := [] }
  | _ => none
noncomputable def fd19 : Body := { code := Try.f19.body.getD .skip, ntmps := Try.f19.ntmps, results := Try.f19.results.toList, hints := h19 }
theorem fn19 : FnOK Try.prog 19 fd19 Try.f19 := ⟨by kernel_rfl, by kernel_rfl, by kernel_rfl, by kernel_rfl, by kernel_rfl⟩
noncomputable def fds19 : List (Nat × Body) := []
noncomputable def cx19 (o25 : ((List T68) × Int × Int × Int × Int) → Option (Int × Int × Int × Int × Int × Int × Bool × Bool)) (N : Nat) : Ctx := { ti := tis, spec := PM.look [(25, sp25 o25)], n := N }
noncomputable def f19.t (o25 : ((List T68) × Int × Int × Int × Int) → Option (Int × Int × Int × Int × Int × Int × Bool × Bool)) (N : Nat) (x : (List T68)) : Option (Bool) :=
  loopT N (fun (k2 : (Int) → Option (Bool)) (v1 : Int) =>
    bif (decide (v1 < (x.length : Int))) then
      bif (decide (0 ≤ (0 : Int)) && (decide ((0 : Int) ≤ v1) && decide (v1 ≤ (x.length : Int)))) then
      bif (decide (0 ≤ v1) && decide (v1 < (x.length : Int))) then
      lt (rd R68 x v1) fun e3 =>
      bif (ok (o25 (((x.take v1.toNat).drop (0 : Int).toNat), e3.1, e3.2.1, e3.2.2.1, e3.2.2.2.1))) then
      lt ((vl (o25 (((x.take v1.toNat).drop (0 : Int).toNat), e3.1, e3.2.1, e3.2.2.1, e3.2.2.2.1)))) fun y4 =>
      bif y4.2.2.2.2.2.2.2 then
        some false
      else
        k2 (IntKind.wrap .i64 (v1 + (1 : Int)))
      else none
      else none
      else none
    else
      some true) ((0 : Int) : Int)
theorem f19.run (o25 : ((List T68) × Int × Int × Int × Int) → Option (Int × Int × Int × Int × Int × Int × Bool × Bool)) (N : Nat) (x : (List T68)) : PM.runT (rb := Row.cons (Ty.bool) (Row.nil)) (cx19 o25 N) (PM.calls (cx19 o25 N) (lookF fds19) 4) fd19 [.one] (.one) (expl (Row.cons (Ty.sl R68) (Row.nil)) x) = f19.t o25 N x := by kernel_rfl
noncomputable def f19.n (x : (List T68)) : Option (Bool) :=
  if small x then
  bindE (foldI (fun (i1 : Nat) (a1 : T68) (s1 : Unit) =>
      if (decide (0 ≤ (0 : Int)) && (decide ((0 : Int) ≤ (i1 : Int)) && decide ((i1 : Int) ≤ (x.length : Int)))) then
      bindO (f25.n (((x.take (i1 : Int).toNat).drop (0 : Int).toNat), a1.1, a1.2.1, a1.2.2.1, a1.2.2.2.1)) fun y4 =>
      if y4.2.2.2.2.2.2.2 then
        Res.ret (some false)
      else
        Res.go ()
      else bot) 0 x ()) fun s1 =>
  some true
  else bot
theorem f19.ref (x : (List T68)) : RefI id (f19.n x) (f19.t f25.n BIG x) := (RefI.forI rfl (fun (i_ : Int) (s1 : Unit) => (i_ : Int)) (fun hs1 R1 i1 hi1 s1 => RefI.tt (lt_ok hi1) (RefI.chk rfl (RefI.tt (idx_ok hi1) (RefI.ltd (rd_ok hi1) (RefI.bindO rfl fun y4 => (RefI.ite (RefI.ret RefI.some) (RefI.next (mk := fun (i_ : Int) (s1 : Unit) => (i_ : Int)) (next_ok hi1 hs1)))))))) (fun R1 s1 => RefI.ff lt_no RefI.some))
theorem f19.spec : SpecOK Try.prog 19 (sp19 f19.n) := specOK_o mx fn19 (cx := cx19 f25.n BIG) (fds := lookF fds19) (d := 4) tab (specsOK_cons f25.spec specsOK_nil) fdsOK_nil (fun x y h => (f19.run f25.n BIG x).trans (f19.ref x y h))
/-! f23 antipode/antipoderef8.In -/
noncomputable abbrev sp23 (F : (ByteArray × ByteArray × ByteArray) → (Bool)) : PM.Spec := spF [.one, .agg 2] (Row.cons (Ty.str) (Row.cons (Ty.str) (Row.cons (Ty.str) (Row.nil)))) (.one) (Row.cons (Ty.bool) (Row.nil)) F
noncomputable def fd23 : Body := { code := Try.f23.body.getD .skip, ntmps := Try.f23.ntmps, results := Try.f23.results.toList, hints := fun _ => none }
theorem fn23 : FnOK Try.prog 23 fd23 Try.f23 := ⟨by kernel_rfl, by kernel_rfl, by kernel_rfl, by kernel_rfl, by kernel_rfl⟩
noncomputable def fds23 : List (Nat × Body) := []
noncomputable def cx23 (N : Nat) : Ctx := { ti := tis, spec := PM.look [], n := N }
noncomputable def f23.t (N : Nat) (x : ByteArray × ByteArray × ByteArray) : Option (Bool) :=
  some ((!(Op.bytesLess x.1.toList x.2.1.toList)) && (Op.bytesLess x.1.toList x.2.2.toList))
theorem f23.run (N : Nat) (x : ByteArray × ByteArray × ByteArray) : PM.runT (rb := Row.cons (Ty.bool) (Row.nil)) (cx23 N) (PM.calls (cx23 N) (lookF fds23) 4) fd23 [.one, .agg 2] (.one) (expl (Row.cons (Ty.str) (Row.cons (Ty.str) (Row.cons (Ty.str) (Row.nil)))) x) = f23.t N x := by kernel_rfl
noncomputable def f23.p (x : ByteArray × ByteArray × ByteArray) : Bool :=
  ((!(Op.bytesLess x.1.toList x.2.1.toList)) && (Op.bytesLess x.1.toList x.2.2.toList))
theorem f23.ref (x : ByteArray × ByteArray × ByteArray) : f23.t BIG x = some (f23.p x) := rfl
theorem f23.spec : SpecOK Try.prog 23 (sp23 f23.p) := specOK_f mx fn23 (cx := cx23 BIG) (fds := lookF fds23) (d := 4) tab specsOK_nil fdsOK_nil (fun x => (f23.run BIG x).trans (f23.ref x))
/-! f29 antipode/antipoderef8.Blocks -/
noncomputable abbrev sp29 (F : ((List T49) × ByteArray × ByteArray × Int × Int) → Option (Int × Int × Int × Int × Int × Int × Int × Bool × ByteArray × Bool)) : PM.Spec := spO [.one, .agg 2, .agg 2] (Row.cons (Ty.sl R49) (Row.cons (Ty.str) (Row.cons (Ty.str) (Row.cons (Ty.int .i64) (Row.cons (Ty.int .i64) (Row.nil)))))) (.tup [(true, 9), (false, 1)]) (Row.cons (Ty.int .i64) (Row.cons (Ty.int .i64) (Row.cons (Ty.int .i64) (Row.cons (Ty.int .i64) (Row.cons (Ty.int .i64) (Row.cons (Ty.int .i64) (Row.cons (Ty.int .i64) (Row.cons (Ty.bool) (Row.cons (Ty.str) (Row.cons (Ty.bool) (Row.nil))))))))))) F
def h29 : Nat → Option Hint
  | 0 => some { tm := [(8, Ty.int .i64, none)], bx := [(2, 0, Ty.int .i64, none), (2, 1, Ty.int .i64, none), (2, 2, Ty.int .i64, none), (2, 3, Ty.int .i64, none), (2, 4, Ty.int .i64, none), (2, 5, Ty.int .i64, none), (2, 6, Ty.int .i64, none), (2, 7, Ty.bool, none), (2, 8, Ty.str, none)] }
  | _ => none
noncomputable def fd29 : Body := { code := Try.f29.body.getD .skip, ntmps := Try.f29.ntmps, results := Try.f29.results.toList, hints := h29 }
theorem fn29 : FnOK Try.prog 29 fd29 Try.f29 := ⟨by kernel_rfl, by kernel_rfl, by kernel_rfl, by kernel_rfl, by kernel_rfl⟩
noncomputable def fds29 : List (Nat × Body) := []
noncomputable def cx29 (F23 : (ByteArray × ByteArray × ByteArray) → (Bool)) (F24 : (Int × Int × Int × Int) → (Bool)) (N : Nat) : Ctx := { ti := tis, spec := PM.look [(23, sp23 F23), (24, sp24 F24)], n := N }
noncomputable def f29.t (F23 : (ByteArray × ByteArray × ByteArray) → (Bool)) (F24 : (Int × Int × Int × Int) → (Bool)) (N : Nat) (x : (List T49) × ByteArray × ByteArray × Int × Int) : Option (Int × Int × Int × Int × Int × Int × Int × Bool × ByteArray × Bool) :=
  loopT N (fun (k2 : (Int × Int × Int × Int × Int × Int × Int × Int × Bool × ByteArray) → Option (Int × Int × Int × Int × Int × Int × Int × Bool × ByteArray × Bool)) (v1 : Int × Int × Int × Int × Int × Int × Int × Int × Bool × ByteArray) =>
    bif (decide (v1.1 < (x.1.length : Int))) then
      bif (decide (0 ≤ v1.1) && decide (v1.1 < (x.1.length : Int))) then
      lt (rd R49 x.1 v1.1) fun e3 =>
      lt ((F23 (e3.1, x.2.1, x.2.2.1))) fun y4 =>
      bif (!y4 || (decide (0 ≤ v1.1) && decide (v1.1 < (x.1.length : Int)))) then
      bif (!(y4 && e3.2.2.1) || (decide (0 ≤ v1.1) && decide (v1.1 < (x.1.length : Int)))) then
      bif (!(y4 && e3.2.2.1) || true) then
      lt ((F24 (x.2.2.2.1, x.2.2.2.2, e3.2.2.2.2.2.2.2.2.1, e3.2.2.2.2.2.2.2.2.2.1))) fun y5 =>
      bif ((y4 && e3.2.2.1) && (!y5)) then
        bif (decide (0 ≤ v1.1) && decide (v1.1 < (x.1.length : Int))) then
        some (e3.2.2.2.1, e3.2.2.2.2.1, e3.2.2.2.2.2.1, e3.2.2.2.2.2.2.1, e3.2.2.2.2.2.2.2.1, e3.2.2.2.2.2.2.2.2.1, e3.2.2.2.2.2.2.2.2.2.1, e3.2.2.2.2.2.2.2.2.2.2.1, e3.2.2.2.2.2.2.2.2.2.2.2, true)
        else none
      else
        k2 ((IntKind.wrap .i64 (v1.1 + (1 : Int))), v1.2)
      else none
      else none
      else none
      else none
    else
      some ((0 : Int), (0 : Int), (0 : Int), (0 : Int), (0 : Int), (0 : Int), (0 : Int), false, (⟨#[]⟩ : ByteArray), false)) (((0 : Int), (0 : Int), (0 : Int), (0 : Int), (0 : Int), (0 : Int), (0 : Int), (0 : Int), false, (⟨#[]⟩ : ByteArray)) : Int × Int × Int × Int × Int × Int × Int × Int × Bool × ByteArray)
theorem f29.run (F23 : (ByteArray × ByteArray × ByteArray) → (Bool)) (F24 : (Int × Int × Int × Int) → (Bool)) (N : Nat) (x : (List T49) × ByteArray × ByteArray × Int × Int) : PM.runT (rb := Row.cons (Ty.int .i64) (Row.cons (Ty.int .i64) (Row.cons (Ty.int .i64) (Row.cons (Ty.int .i64) (Row.cons (Ty.int .i64) (Row.cons (Ty.int .i64) (Row.cons (Ty.int .i64) (Row.cons (Ty.bool) (Row.cons (Ty.str) (Row.cons (Ty.bool) (Row.nil))))))))))) (cx29 F23 F24 N) (PM.calls (cx29 F23 F24 N) (lookF fds29) 4) fd29 [.one, .agg 2, .agg 2] (.tup [(true, 9), (false, 1)]) (expl (Row.cons (Ty.sl R49) (Row.cons (Ty.str) (Row.cons (Ty.str) (Row.cons (Ty.int .i64) (Row.cons (Ty.int .i64) (Row.nil)))))) x) = f29.t F23 F24 N x := by kernel_rfl
noncomputable def f29.n (x : (List T49) × ByteArray × ByteArray × Int × Int) : Option (Int × Int × Int × Int × Int × Int × Int × Bool × ByteArray × Bool) :=
  if small x.1 then
  bindE (foldE (fun (a1 : T49) (s1 : Unit) =>
      lt ((f23.p (a1.1, x.2.1, x.2.2.1))) fun y4 =>
      lt ((f24.p (x.2.2.2.1, x.2.2.2.2, a1.2.2.2.2.2.2.2.2.1, a1.2.2.2.2.2.2.2.2.2.1))) fun y5 =>
      if ((y4 && a1.2.2.1) && (!y5)) then
        Res.ret (some (a1.2.2.2.1, a1.2.2.2.2.1, a1.2.2.2.2.2.1, a1.2.2.2.2.2.2.1, a1.2.2.2.2.2.2.2.1, a1.2.2.2.2.2.2.2.2.1, a1.2.2.2.2.2.2.2.2.2.1, a1.2.2.2.2.2.2.2.2.2.2.1, a1.2.2.2.2.2.2.2.2.2.2.2, true))
      else
        Res.go ()) x.1 ()) fun s1 =>
  some ((0 : Int), (0 : Int), (0 : Int), (0 : Int), (0 : Int), (0 : Int), (0 : Int), false, (⟨#[]⟩ : ByteArray), false)
  else bot
theorem f29.ref (x : (List T49) × ByteArray × ByteArray × Int × Int) : RefI id (f29.n x) (f29.t f23.p f24.p BIG x) := (RefI.for rfl (fun (i_ : Int) (s1 : Unit) => ((i_, (0 : Int), (0 : Int), (0 : Int), (0 : Int), (0 : Int), (0 : Int), (0 : Int), false, (⟨#[]⟩ : ByteArray)) : Int × Int × Int × Int × Int × Int × Int × Int × Bool × ByteArray)) (fun hs1 R1 i1 hi1 s1 => RefI.tt (lt_ok hi1) (RefI.tt (idx_ok hi1) (RefI.ltd (rd_ok hi1) (RefI.lt fun y4 => (RefI.tt (or_ok (idx_ok hi1)) (RefI.tt (or_ok (idx_ok hi1)) (RefI.tt (Bool.or_true _) (RefI.lt fun y5 => (RefI.ite (RefI.tt (idx_ok hi1) (RefI.ret RefI.some)) (RefI.next (mk := fun (i_ : Int) (s1 : Unit) => ((i_, (0 : Int), (0 : Int), (0 : Int), (0 : Int), (0 : Int), (0 : Int), (0 : Int), false, (⟨#[]⟩ : ByteArray)) : Int × Int × Int × Int × Int × Int × Int × Int × Bool × ByteArray)) (next_ok hi1 hs1))))))))))) (fun R1 s1 => RefI.ff lt_no RefI.some))
theorem f29.spec : SpecOK Try.prog 29 (sp29 f29.n) := specOK_o mx fn29 (cx := cx29 f23.p f24.p BIG) (fds := lookF fds29) (d := 4) tab (specsOK_cons f23.spec (specsOK_cons f24.spec specsOK_nil)) fdsOK_nil (fun x y h => (f29.run f23.p f24.p BIG x).trans (f29.ref x y h))
/-! f30 antipode/antipoderef23.locked -/
noncomputable abbrev sp30 (F : (Int × Int × Int × Int × Int × Int × Int × Bool × ByteArray) → (Int × (List T41) × Int × Int × Int × Int × Int × Int × Int × Int × Bool)) : PM.Spec := spF [.agg 9] (Row.cons (Ty.int .i64) (Row.cons (Ty.int .i64) (Row.cons (Ty.int .i64) (Row.cons (Ty.int .i64) (Row.cons (Ty.int .i64) (Row.cons (Ty.int .i64) (Row.cons (Ty.int .i64) (Row.cons (Ty.bool) (Row.cons (Ty.str) (Row.nil)))))))))) (.agg 11) (Row.cons (Ty.int .i64) (Row.cons (Ty.sl R41) (Row.cons (Ty.int .i64) (Row.cons (Ty.int .i64) (Row.cons (Ty.int .i64) (Row.cons (Ty.int .i64) (Row.cons (Ty.int .i64) (Row.cons (Ty.int .i64) (Row.cons (Ty.int .i64) (Row.cons (Ty.int .i64) (Row.cons (Ty.bool) (Row.nil)))))))))))) F
noncomputable def fd30 : Body := { code := Try.f30.body.getD .skip, ntmps := Try.f30.ntmps, results := Try.f30.results.toList, hints := fun _ => none }
theorem fn30 : FnOK Try.prog 30 fd30 Try.f30 := ⟨by kernel_rfl, by kernel_rfl, by kernel_rfl, by kernel_rfl, by kernel_rfl⟩
noncomputable def fds30 : List (Nat × Body) := []
noncomputable def cx30 (N : Nat) : Ctx := { ti := tis, spec := PM.look [], n := N }
noncomputable def f30.t (N : Nat) (x : Int × Int × Int × Int × Int × Int × Int × Bool × ByteArray) : Option (Int × (List T41) × Int × Int × Int × Int × Int × Int × Int × Int × Bool) :=
  some ((20 : Int), [], x.1, x.2.1, x.2.2.1, x.2.2.2.1, x.2.2.2.2.1, x.2.2.2.2.2.1, x.2.2.2.2.2.2.1, (0 : Int), false)
theorem f30.run (N : Nat) (x : Int × Int × Int × Int × Int × Int × Int × Bool × ByteArray) : PM.runT (rb := Row.cons (Ty.int .i64) (Row.cons (Ty.sl R41) (Row.cons (Ty.int .i64) (Row.cons (Ty.int .i64) (Row.cons (Ty.int .i64) (Row.cons (Ty.int .i64) (Row.cons (Ty.int .i64) (Row.cons (Ty.int .i64) (Row.cons (Ty.int .i64) (Row.cons (Ty.int .i64) (Row.cons (Ty.bool) (Row.nil)))))))))))) (cx30 N) (PM.calls (cx30 N) (lookF fds30) 4) fd30 [.agg 9] (.agg 11) (expl (Row.cons (Ty.int .i64) (Row.cons (Ty.int .i64) (Row.cons (Ty.int .i64) (Row.cons (Ty.int .i64) (Row.cons (Ty.int .i64) (Row.cons (Ty.int .i64) (Row.cons (Ty.int .i64) (Row.cons (Ty.bool) (Row.cons (Ty.str) (Row.nil)))))))))) x) = f30.t N x := by kernel_rfl
noncomputable def f30.p (x : Int × Int × Int × Int × Int × Int × Int × Bool × ByteArray) : Int × (List T41) × Int × Int × Int × Int × Int × Int × Int × Int × Bool :=
  ((20 : Int), [], x.1, x.2.1, x.2.2.1, x.2.2.2.1, x.2.2.2.2.1, x.2.2.2.2.2.1, x.2.2.2.2.2.2.1, (0 : Int), false)
theorem f30.ref (x : Int × Int × Int × Int × Int × Int × Int × Bool × ByteArray) : f30.t BIG x = some (f30.p x) := rfl
theorem f30.spec : SpecOK Try.prog 30 (sp30 f30.p) := specOK_f mx fn30 (cx := cx30 BIG) (fds := lookF fds30) (d := 4) tab specsOK_nil fdsOK_nil (fun x => (f30.run BIG x).trans (f30.ref x))
/-! f31 antipode/antipoderef8.Scan -/
noncomputable abbrev sp31 (F : ((List T49) × ByteArray × ByteArray × Int × Int × Int) → Option ((List T41) × Int)) : PM.Spec := spO [.one, .agg 2, .agg 2, .one] (Row.cons (Ty.sl R49) (Row.cons (Ty.str) (Row.cons (Ty.str) (Row.cons (Ty.int .i64) (Row.cons (Ty.int .i64) (Row.cons (Ty.int .i64) (Row.nil))))))) (.tup [(false, 1), (false, 1)]) (Row.cons (Ty.sl R41) (Row.cons (Ty.int .i64) (Row.nil))) F
def h31 : Nat → Option Hint
  | 0 => some { tm := [(10, Ty.sl R41, some 41), (11, Ty.int .i64, none)], bx := [] }
  | _ => none
noncomputable def fd31 : Body := { code := Try.f31.body.getD .skip, ntmps := Try.f31.ntmps, results := Try.f31.results.toList, hints := h31 }
theorem fn31 : FnOK Try.prog 31 fd31 Try.f31 := ⟨by kernel_rfl, by kernel_rfl, by kernel_rfl, by kernel_rfl, by kernel_rfl⟩
noncomputable def fds31 : List (Nat × Body) := []
noncomputable def cx31 (F23 : (ByteArray × ByteArray × ByteArray) → (Bool)) (o36 : (ByteArray × (List T65) × Bool × Int × Int × Int × Int × Int × Int × Int × Bool × ByteArray × Int × Int) → Option (ByteArray × Bool)) (N : Nat) : Ctx := { ti := tis, spec := PM.look [(23, sp23 F23), (36, sp36 o36)], n := N }
noncomputable def f31.t (F23 : (ByteArray × ByteArray × ByteArray) → (Bool)) (o36 : (ByteArray × (List T65) × Bool × Int × Int × Int × Int × Int × Int × Int × Bool × ByteArray × Int × Int) → Option (ByteArray × Bool)) (N : Nat) (x : (List T49) × ByteArray × ByteArray × Int × Int × Int) : Option ((List T41) × Int) :=
  loopT N (fun (k2 : ((List T41) × Int) → Option ((List T41) × Int)) (v1 : (List T41) × Int) =>
    bif (decide (v1.2 < (x.1.length : Int))) then
      bif (decide (0 ≤ v1.2) && decide (v1.2 < (x.1.length : Int))) then
      lt (rd R49 x.1 v1.2) fun e3 =>
      lt ((F23 (e3.1, x.2.1, x.2.2.1))) fun y4 =>
      bif (!y4) then
        k2 (v1.1, (IntKind.wrap .i64 (v1.2 + (1 : Int))))
      else
        bif (decide (0 ≤ v1.2) && decide (v1.2 < (x.1.length : Int))) then
        bif (ok (o36 (e3.1, e3.2.1, e3.2.2.1, e3.2.2.2.1, e3.2.2.2.2.1, e3.2.2.2.2.2.1, e3.2.2.2.2.2.2.1, e3.2.2.2.2.2.2.2.1, e3.2.2.2.2.2.2.2.2.1, e3.2.2.2.2.2.2.2.2.2.1, e3.2.2.2.2.2.2.2.2.2.2.1, e3.2.2.2.2.2.2.2.2.2.2.2, x.2.2.2.1, x.2.2.2.2.1))) then
        lt ((vl (o36 (e3.1, e3.2.1, e3.2.2.1, e3.2.2.2.1, e3.2.2.2.2.1, e3.2.2.2.2.2.1, e3.2.2.2.2.2.2.1, e3.2.2.2.2.2.2.2.1, e3.2.2.2.2.2.2.2.2.1, e3.2.2.2.2.2.2.2.2.2.1, e3.2.2.2.2.2.2.2.2.2.2.1, e3.2.2.2.2.2.2.2.2.2.2.2, x.2.2.2.1, x.2.2.2.2.1)))) fun y5 =>
        bif y5.2 then
          bif (decide (0 ≤ v1.2) && decide (v1.2 < (x.1.length : Int))) then
          bif Nat.ble ((v1.1.length + ([(e3.1, y5.1)]).length) * 32) LIM then
          k2 ((v1.1 ++ [(e3.1, y5.1)]), (IntKind.wrap .i64 (v1.2 + (1 : Int))))
          else none
          else none
        else
          k2 (v1.1, (IntKind.wrap .i64 (v1.2 + (1 : Int))))
        else none
        else none
      else none
    else
      bif (decide ((v1.1.length : Int) > (if (0 : Int) > x.2.2.2.2.2 then (0 : Int) else x.2.2.2.2.2))) then
        some ([], (3 : Int))
      else
        some (v1.1, (0 : Int))) (([], (0 : Int)) : (List T41) × Int)
theorem f31.run (F23 : (ByteArray × ByteArray × ByteArray) → (Bool)) (o36 : (ByteArray × (List T65) × Bool × Int × Int × Int × Int × Int × Int × Int × Bool × ByteArray × Int × Int) → Option (ByteArray × Bool)) (N : Nat) (x : (List T49) × ByteArray × ByteArray × Int × Int × Int) : PM.runT (rb := Row.cons (Ty.sl R41) (Row.cons (Ty.int .i64) (Row.nil))) (cx31 F23 o36 N) (PM.calls (cx31 F23 o36 N) (lookF fds31) 4) fd31 [.one, .agg 2, .agg 2, .one] (.tup [(false, 1), (false, 1)]) (expl (Row.cons (Ty.sl R49) (Row.cons (Ty.str) (Row.cons (Ty.str) (Row.cons (Ty.int .i64) (Row.cons (Ty.int .i64) (Row.cons (Ty.int .i64) (Row.nil))))))) x) = f31.t F23 o36 N x := by kernel_rfl
noncomputable def f31.n (x : (List T49) × ByteArray × ByteArray × Int × Int × Int) : Option ((List T41) × Int) :=
  if small x.1 then
  bindE (foldE (fun (a1 : T49) (s1 : (List T41)) =>
      lt ((f23.p (a1.1, x.2.1, x.2.2.1))) fun y4 =>
      if (!y4) then
        Res.go s1
      else
        bindO (f36.n (a1.1, a1.2.1, a1.2.2.1, a1.2.2.2.1, a1.2.2.2.2.1, a1.2.2.2.2.2.1, a1.2.2.2.2.2.2.1, a1.2.2.2.2.2.2.2.1, a1.2.2.2.2.2.2.2.2.1, a1.2.2.2.2.2.2.2.2.2.1, a1.2.2.2.2.2.2.2.2.2.2.1, a1.2.2.2.2.2.2.2.2.2.2.2, x.2.2.2.1, x.2.2.2.2.1)) fun y5 =>
        if y5.2 then
          if Nat.ble ((s1.length + ([(a1.1, y5.1)]).length) * 32) LIM then
          Res.go (s1 ++ [(a1.1, y5.1)])
          else bot
        else
          Res.go s1) x.1 []) fun s1 =>
  if (decide ((s1.length : Int) > (if (0 : Int) > x.2.2.2.2.2 then (0 : Int) else x.2.2.2.2.2))) then
    some ([], (3 : Int))
  else
    some (s1, (0 : Int))
  else bot
theorem f31.ref (x : (List T49) × ByteArray × ByteArray × Int × Int × Int) : RefI id (f31.n x) (f31.t f23.p f36.n BIG x) := (RefI.for rfl (fun (i_ : Int) (s1 : (List T41)) => ((s1, i_) : (List T41) × Int)) (fun hs1 R1 i1 hi1 s1 => RefI.tt (lt_ok hi1) (RefI.tt (idx_ok hi1) (RefI.ltd (rd_ok hi1) (RefI.lt fun y4 => (RefI.ite (RefI.next (mk := fun (i_ : Int) (s1 : (List T41)) => ((s1, i_) : (List T41) × Int)) (next_ok hi1 hs1)) (RefI.tt (idx_ok hi1) (RefI.bindO rfl fun y5 => (RefI.ite (RefI.tt (idx_ok hi1) (RefI.chk rfl (RefI.next (mk := fun (i_ : Int) (s1 : (List T41)) => ((s1, i_) : (List T41) × Int)) (next_ok hi1 hs1)))) (RefI.next (mk := fun (i_ : Int) (s1 : (List T41)) => ((s1, i_) : (List T41) × Int)) (next_ok hi1 hs1)))))))))) (fun R1 s1 => RefI.ff lt_no (RefI.ite RefI.some RefI.some)))
theorem f31.spec : SpecOK Try.prog 31 (sp31 f31.n) := specOK_o mx fn31 (cx := cx31 f23.p f36.n BIG) (fds := lookF fds31) (d := 4) tab (specsOK_cons f23.spec (specsOK_cons f36.spec specsOK_nil)) fdsOK_nil (fun x y h => (f31.run f23.p f36.n BIG x).trans (f31.ref x y h))
/-! f22 antipode/antipoderef23.Pairs -/
noncomputable abbrev sp22 (F : (Int × Int × Int × Int × Int × Int × (List T49) × (List T68) × (List T68) × Int × Int × (List T55)) → Option ((List T41) × Int × (List T41) × Int × Int × Int × Int × Int × Int × Int × Int × Bool)) : PM.Spec := spO [.agg 9, .agg 2, .one] (Row.cons (Ty.int .i64) (Row.cons (Ty.int .i64) (Row.cons (Ty.int .i64) (Row.cons (Ty.int .i64) (Row.cons (Ty.int .i64) (Row.cons (Ty.int .i64) (Row.cons (Ty.sl R49) (Row.cons (Ty.sl R68) (Row.cons (Ty.sl R68) (Row.cons (Ty.int .i64) (Row.cons (Ty.int .i64) (Row.cons (Ty.sl R55) (Row.nil))))))))))))) (.tup [(false, 1), (true, 11)]) (Row.cons (Ty.sl R41) (Row.cons (Ty.int .i64) (Row.cons (Ty.sl R41) (Row.cons (Ty.int .i64) (Row.cons (Ty.int .i64) (Row.cons (Ty.int .i64) (Row.cons (Ty.int .i64) (Row.cons (Ty.int .i64) (Row.cons (Ty.int .i64) (Row.cons (Ty.int .i64) (Row.cons (Ty.int .i64) (Row.cons (Ty.bool) (Row.nil))))))))))))) F
def h22 : Nat → Option Hint
  | 0 => some { tm := [(9, Ty.int .i64, none)], bx := [(2, 0, Ty.int .i64, none), (2, 1, Ty.sl R41, none), (2, 2, Ty.int .i64, none), (2, 3, Ty.int .i64, none), (2, 4, Ty.int .i64, none), (2, 5, Ty.int .i64, none), (2, 6, Ty.int .i64, none), (2, 7, Ty.int .i64, none), (2, 8, Ty.int .i64, none), (2, 9, Ty.int .i64, none), (2, 10, Ty.bool, none)] }
  | 2 => some { tm := [(8, Ty.sl R41, some 41), (12, Ty.int .i64, none)], bx := [(2, 0, Ty.int .i64, none), (2, 1, Ty.sl R41, none), (2, 2, Ty.int .i64, none), (2, 3, Ty.int .i64, none), (2, 4, Ty.int .i64, none), (2, 5, Ty.int .i64, none), (2, 6, Ty.int .i64, none), (2, 7, Ty.int .i64, none), (2, 8, Ty.int .i64, none), (2, 9, Ty.int .i64, none), (2, 10, Ty.bool, none)] }
  | _ => none
noncomputable def fd22 : Body := { code := Try.f22.body.getD .skip, ntmps := Try.f22.ntmps, results := Try.f22.results.toList, hints := h22 }
theorem fn22 : FnOK Try.prog 22 fd22 Try.f22 := ⟨by kernel_rfl, by kernel_rfl, by kernel_rfl, by kernel_rfl, by kernel_rfl⟩
noncomputable def fds22 : List (Nat × Body) := []
noncomputable def cx22 (o29 : ((List T49) × ByteArray × ByteArray × Int × Int) → Option (Int × Int × Int × Int × Int × Int × Int × Bool × ByteArray × Bool)) (F30 : (Int × Int × Int × Int × Int × Int × Int × Bool × ByteArray) → (Int × (List T41) × Int × Int × Int × Int × Int × Int × Int × Int × Bool)) (o31 : ((List T49) × ByteArray × ByteArray × Int × Int × Int) → Option ((List T41) × Int)) (N : Nat) : Ctx := { ti := tis, spec := PM.look [(29, sp29 o29), (30, sp30 F30), (31, sp31 o31)], n := N }
noncomputable def f22.t (o29 : ((List T49) × ByteArray × ByteArray × Int × Int) → Option (Int × Int × Int × Int × Int × Int × Int × Bool × ByteArray × Bool)) (F30 : (Int × Int × Int × Int × Int × Int × Int × Bool × ByteArray) → (Int × (List T41) × Int × Int × Int × Int × Int × Int × Int × Int × Bool)) (o31 : ((List T49) × ByteArray × ByteArray × Int × Int × Int) → Option ((List T41) × Int)) (N : Nat) (x : Int × Int × Int × Int × Int × Int × (List T49) × (List T68) × (List T68) × Int × Int × (List T55)) : Option ((List T41) × Int × (List T41) × Int × Int × Int × Int × Int × Int × Int × Int × Bool) :=
  loopT N (fun (k2 : (Int × Int × (List T41) × Int × Int × Int × Int × Int × Int × Int × Int × Bool) → Option ((List T41) × Int × (List T41) × Int × Int × Int × Int × Int × Int × Int × Int × Bool)) (v1 : Int × Int × (List T41) × Int × Int × Int × Int × Int × Int × Int × Int × Bool) =>
    bif (decide (v1.1 < (x.2.2.2.2.2.2.2.2.2.2.2.length : Int))) then
      bif (decide (0 ≤ v1.1) && decide (v1.1 < (x.2.2.2.2.2.2.2.2.2.2.2.length : Int))) then
      lt (rd R55 x.2.2.2.2.2.2.2.2.2.2.2 v1.1) fun e3 =>
      bif (ok (o29 (x.2.2.2.2.2.2.1, e3.1, e3.2, x.2.2.2.2.2.2.2.2.2.1, x.2.2.2.2.2.2.2.2.2.2.1))) then
      lt ((vl (o29 (x.2.2.2.2.2.2.1, e3.1, e3.2, x.2.2.2.2.2.2.2.2.2.1, x.2.2.2.2.2.2.2.2.2.2.1)))) fun y4 =>
      bif y4.2.2.2.2.2.2.2.2.2 then
        lt ((F30 (y4.1, y4.2.1, y4.2.2.1, y4.2.2.2.1, y4.2.2.2.2.1, y4.2.2.2.2.2.1, y4.2.2.2.2.2.2.1, y4.2.2.2.2.2.2.2.1, y4.2.2.2.2.2.2.2.2.1))) fun y5 =>
        some ([], y5)
      else
        k2 ((IntKind.wrap .i64 (v1.1 + (1 : Int))), v1.2)
      else none
      else none
    else
      loopT N (fun (k7 : ((List T41) × Int × Int × (List T41) × Int × Int × Int × Int × Int × Int × Int × Int × Bool) → Option ((List T41) × Int × (List T41) × Int × Int × Int × Int × Int × Int × Int × Int × Bool)) (v6 : (List T41) × Int × Int × (List T41) × Int × Int × Int × Int × Int × Int × Int × Int × Bool) =>
        bif (decide (v6.2.1 < (x.2.2.2.2.2.2.2.2.2.2.2.length : Int))) then
          bif (decide (0 ≤ v6.2.1) && decide (v6.2.1 < (x.2.2.2.2.2.2.2.2.2.2.2.length : Int))) then
          lt (rd R55 x.2.2.2.2.2.2.2.2.2.2.2 v6.2.1) fun e8 =>
          bif (ok (o31 (x.2.2.2.2.2.2.1, e8.1, e8.2, x.2.2.2.2.2.2.2.2.2.1, x.2.2.2.2.2.2.2.2.2.2.1, (IntKind.wrap .i64 ((512 : Int) - (v6.1.length : Int)))))) then
          lt ((vl (o31 (x.2.2.2.2.2.2.1, e8.1, e8.2, x.2.2.2.2.2.2.2.2.2.1, x.2.2.2.2.2.2.2.2.2.2.1, (IntKind.wrap .i64 ((512 : Int) - (v6.1.length : Int))))))) fun y9 =>
          bif (y9.2 != (0 : Int)) then
            some ([], y9.2, [], (0 : Int), (0 : Int), (0 : Int), (0 : Int), (0 : Int), (0 : Int), (0 : Int), (0 : Int), false)
          else
            bif Nat.ble ((v6.1.length + y9.1.length) * 32) LIM then
            k7 ((v6.1 ++ y9.1), (IntKind.wrap .i64 (v6.2.1 + (1 : Int))), v6.2.2)
            else none
          else none
          else none
        else
          some (v6.1, (0 : Int), [], (0 : Int), (0 : Int), (0 : Int), (0 : Int), (0 : Int), (0 : Int), (0 : Int), (0 : Int), false)) (([], (0 : Int), v1.2) : (List T41) × Int × Int × (List T41) × Int × Int × Int × Int × Int × Int × Int × Int × Bool)) (((0 : Int), (0 : Int), [], (0 : Int), (0 : Int), (0 : Int), (0 : Int), (0 : Int), (0 : Int), (0 : Int), (0 : Int), false) : Int × Int × (List T41) × Int × Int × Int × Int × Int × Int × Int × Int × Bool)
theorem f22.run (o29 : ((List T49) × ByteArray × ByteArray × Int × Int) → Option (Int × Int × Int × Int × Int × Int × Int × Bool × ByteArray × Bool)) (F30 : (Int × Int × Int × Int × Int × Int × Int × Bool × ByteArray) → (Int × (List T41) × Int × Int × Int × Int × Int × Int × Int × Int × Bool)) (o31 : ((List T49) × ByteArray × ByteArray × Int × Int × Int) → Option ((List T41) × Int)) (N : Nat) (x : Int × Int × Int × Int × Int × Int × (List T49) × (List T68) × (List T68) × Int × Int × (List T55)) : PM.runT (rb := Row.cons (Ty.sl R41) (Row.cons (Ty.int .i64) (Row.cons (Ty.sl R41) (Row.cons (Ty.int .i64) (Row.cons (Ty.int .i64) (Row.cons (Ty.int .i64) (Row.cons (Ty.int .i64) (Row.cons (Ty.int .i64) (Row.cons (Ty.int .i64) (Row.cons (Ty.int .i64) (Row.cons (Ty.int .i64) (Row.cons (Ty.bool) (Row.nil))))))))))))) (cx22 o29 F30 o31 N) (PM.calls (cx22 o29 F30 o31 N) (lookF fds22) 4) fd22 [.agg 9, .agg 2, .one] (.tup [(false, 1), (true, 11)]) (expl (Row.cons (Ty.int .i64) (Row.cons (Ty.int .i64) (Row.cons (Ty.int .i64) (Row.cons (Ty.int .i64) (Row.cons (Ty.int .i64) (Row.cons (Ty.int .i64) (Row.cons (Ty.sl R49) (Row.cons (Ty.sl R68) (Row.cons (Ty.sl R68) (Row.cons (Ty.int .i64) (Row.cons (Ty.int .i64) (Row.cons (Ty.sl R55) (Row.nil))))))))))))) x) = f22.t o29 F30 o31 N x := by kernel_rfl
noncomputable def f22.n (x : Int × Int × Int × Int × Int × Int × (List T49) × (List T68) × (List T68) × Int × Int × (List T55)) : Option ((List T41) × Int × (List T41) × Int × Int × Int × Int × Int × Int × Int × Int × Bool) :=
  if small x.2.2.2.2.2.2.2.2.2.2.2 then
  bindE (foldE (fun (a1 : T55) (s1 : Unit) =>
      bindO (f29.n (x.2.2.2.2.2.2.1, a1.1, a1.2, x.2.2.2.2.2.2.2.2.2.1, x.2.2.2.2.2.2.2.2.2.2.1)) fun y4 =>
      if y4.2.2.2.2.2.2.2.2.2 then
        lt ((f30.p (y4.1, y4.2.1, y4.2.2.1, y4.2.2.2.1, y4.2.2.2.2.1, y4.2.2.2.2.2.1, y4.2.2.2.2.2.2.1, y4.2.2.2.2.2.2.2.1, y4.2.2.2.2.2.2.2.2.1))) fun y5 =>
        Res.ret (some ([], y5))
      else
        Res.go ()) x.2.2.2.2.2.2.2.2.2.2.2 ()) fun s1 =>
  if small x.2.2.2.2.2.2.2.2.2.2.2 then
  bindE (foldE (fun (a6 : T55) (s6 : (List T41)) =>
      bindO (f31.n (x.2.2.2.2.2.2.1, a6.1, a6.2, x.2.2.2.2.2.2.2.2.2.1, x.2.2.2.2.2.2.2.2.2.2.1, (IntKind.wrap .i64 ((512 : Int) - (s6.length : Int))))) fun y9 =>
      if (y9.2 != (0 : Int)) then
        Res.ret (some ([], y9.2, [], (0 : Int), (0 : Int), (0 : Int), (0 : Int), (0 : Int), (0 : Int), (0 : Int), (0 : Int), false))
      else
        if Nat.ble ((s6.length + y9.1.length) * 32) LIM then
        Res.go (s6 ++ y9.1)
        else bot) x.2.2.2.2.2.2.2.2.2.2.2 []) fun s6 =>
  some (s6, (0 : Int), [], (0 : Int), (0 : Int), (0 : Int), (0 : Int), (0 : Int), (0 : Int), (0 : Int), (0 : Int), false)
  else bot
  else bot
theorem f22.ref (x : Int × Int × Int × Int × Int × Int × (List T49) × (List T68) × (List T68) × Int × Int × (List T55)) : RefI id (f22.n x) (f22.t f29.n f30.p f31.n BIG x) := (RefI.for rfl (fun (i_ : Int) (s1 : Unit) => ((i_, (0 : Int), [], (0 : Int), (0 : Int), (0 : Int), (0 : Int), (0 : Int), (0 : Int), (0 : Int), (0 : Int), false) : Int × Int × (List T41) × Int × Int × Int × Int × Int × Int × Int × Int × Bool)) (fun hs1 R1 i1 hi1 s1 => RefI.tt (lt_ok hi1) (RefI.tt (idx_ok hi1) (RefI.ltd (rd_ok hi1) (RefI.bindO rfl fun y4 => (RefI.ite (RefI.lt fun y5 => (RefI.ret RefI.some)) (RefI.next (mk := fun (i_ : Int) (s1 : Unit) => ((i_, (0 : Int), [], (0 : Int), (0 : Int), (0 : Int), (0 : Int), (0 : Int), (0 : Int), (0 : Int), (0 : Int), false) : Int × Int × (List T41) × Int × Int × Int × Int × Int × Int × Int × Int × Bool)) (next_ok hi1 hs1))))))) (fun R1 s1 => RefI.ff lt_no (RefI.for rfl (fun (i_ : Int) (s6 : (List T41)) => ((s6, i_, (0 : Int), [], (0 : Int), (0 : Int), (0 : Int), (0 : Int), (0 : Int), (0 : Int), (0 : Int), (0 : Int), false) : (List T41) × Int × Int × (List T41) × Int × Int × Int × Int × Int × Int × Int × Int × Bool)) (fun hs6 R6 i6 hi6 s6 => RefI.tt (lt_ok hi6) (RefI.tt (idx_ok hi6) (RefI.ltd (rd_ok hi6) (RefI.bindO rfl fun y9 => (RefI.ite (RefI.ret RefI.some) (RefI.chk rfl (RefI.next (mk := fun (i_ : Int) (s6 : (List T41)) => ((s6, i_, (0 : Int), [], (0 : Int), (0 : Int), (0 : Int), (0 : Int), (0 : Int), (0 : Int), (0 : Int), (0 : Int), false) : (List T41) × Int × Int × (List T41) × Int × Int × Int × Int × Int × Int × Int × Int × Bool)) (next_ok hi6 hs6)))))))) (fun R6 s6 => RefI.ff lt_no RefI.some))))
theorem f22.spec : SpecOK Try.prog 22 (sp22 f22.n) := specOK_o mx fn22 (cx := cx22 f29.n f30.p f31.n BIG) (fds := lookF fds22) (d := 4) tab (specsOK_cons f29.spec (specsOK_cons f30.spec (specsOK_cons f31.spec specsOK_nil))) fdsOK_nil (fun x y h => (f22.run f29.n f30.p f31.n BIG x).trans (f22.ref x y h))
/-! f17 antipode/antipodelaw8.Light -/
noncomputable abbrev sp17 (F : ((List T49)) → Option (Bool)) : PM.Spec := spO [.one] (Row.cons (Ty.sl R49) (Row.nil)) (.one) (Row.cons (Ty.bool) (Row.nil)) F
def h17 : Nat → Option Hint
  | 0 => some { tm := [(3, Ty.int .i64, none)], bx := [] }
  | 2 => some { tm := [(4, Ty.int .i64, none)], bx := [] }
  | _ => none
noncomputable def fd17 : Body := { code := Try.f17.body.getD .skip, ntmps := Try.f17.ntmps, results := Try.f17.results.toList, hints := h17 }
theorem fn17 : FnOK Try.prog 17 fd17 Try.f17 := ⟨by kernel_rfl, by kernel_rfl, by kernel_rfl, by kernel_rfl, by kernel_rfl⟩
noncomputable def fds17 : List (Nat × Body) := []
noncomputable def cx17 (N : Nat) : Ctx := { ti := tis, spec := PM.look [], n := N }
noncomputable def f17.t (N : Nat) (x : (List T49)) : Option (Bool) :=
  bif (decide ((x.length : Int) > (60 : Int))) then
    some false
  else
    loopT N (fun (k2 : (Int) → Option (Bool)) (v1 : Int) =>
      bif (decide (v1 < (x.length : Int))) then
        bif (decide (0 ≤ v1) && decide (v1 < (x.length : Int))) then
        lt (rd R49 x v1) fun e3 =>
        bif (!(!(decide ((e3.2.1.length : Int) > (30 : Int)))) || (decide (0 ≤ v1) && decide (v1 < (x.length : Int)))) then
        bif (!(!((decide ((e3.2.1.length : Int) > (30 : Int))) || (decide ((e3.1.size : Int) > (100 : Int))))) || (decide (0 ≤ v1) && decide (v1 < (x.length : Int)))) then
        bif (((decide ((e3.2.1.length : Int) > (30 : Int))) || (decide ((e3.1.size : Int) > (100 : Int)))) || (decide ((e3.2.2.2.2.2.2.2.2.2.2.2.size : Int) > (300 : Int)))) then
          some false
        else
          loopT N (fun (k5 : (Int) → Option (Bool)) (v4 : Int) =>
            bif (decide (0 ≤ v1) && decide (v1 < (x.length : Int))) then
            bif (decide (v4 < (e3.2.1.length : Int))) then
              bif (decide (0 ≤ v1) && decide (v1 < (x.length : Int))) then
              bif (decide (0 ≤ v4) && decide (v4 < (e3.2.1.length : Int))) then
              lt (rd R65 e3.2.1 v4) fun e6 =>
              bif (decide ((e6.2.2.2.size : Int) > (300 : Int))) then
                some false
              else
                k5 (IntKind.wrap .i64 (v4 + (1 : Int)))
              else none
              else none
            else
              k2 (IntKind.wrap .i64 (v1 + (1 : Int)))
            else none) ((0 : Int) : Int)
        else none
        else none
        else none
      else
        some true) ((0 : Int) : Int)
theorem f17.run (N : Nat) (x : (List T49)) : PM.runT (rb := Row.cons (Ty.bool) (Row.nil)) (cx17 N) (PM.calls (cx17 N) (lookF fds17) 4) fd17 [.one] (.one) (expl (Row.cons (Ty.sl R49) (Row.nil)) x) = f17.t N x := by kernel_rfl
noncomputable def f17.n (x : (List T49)) : Option (Bool) :=
  if (decide ((x.length : Int) > (60 : Int))) then
    some false
  else
    if small x then
    bindE (foldE (fun (a1 : T49) (s1 : Unit) =>
        if (((decide ((a1.2.1.length : Int) > (30 : Int))) || (decide ((a1.1.size : Int) > (100 : Int)))) || (decide ((a1.2.2.2.2.2.2.2.2.2.2.2.size : Int) > (300 : Int)))) then
          Res.ret (some false)
        else
          if small a1.2.1 then
          bindE (foldE (fun (a4 : T65) (s4 : Unit) =>
              if (decide ((a4.2.2.2.size : Int) > (300 : Int))) then
                Res.ret (Res.ret (some false))
              else
                Res.go ()) a1.2.1 ()) fun s4 =>
          Res.go ()
          else bot) x ()) fun s1 =>
    some true
    else bot
theorem f17.ref (x : (List T49)) : RefI id (f17.n x) (f17.t BIG x) := (RefI.ite RefI.some (RefI.for rfl (fun (i_ : Int) (s1 : Unit) => (i_ : Int)) (fun hs1 R1 i1 hi1 s1 => RefI.tt (lt_ok hi1) (RefI.tt (idx_ok hi1) (RefI.ltd (rd_ok hi1) (RefI.tt (or_ok (idx_ok hi1)) (RefI.tt (or_ok (idx_ok hi1)) (RefI.ite (RefI.ret RefI.some) (RefI.for rfl (fun (i_ : Int) (s4 : Unit) => (i_ : Int)) (fun hs4 R4 i4 hi4 s4 => RefI.tt (idx_ok hi1) (RefI.tt (lt_ok hi4) (RefI.tt (idx_ok hi1) (RefI.tt (idx_ok hi4) (RefI.ltd (rd_ok hi4) (RefI.ite (RefI.ret (RefI.ret RefI.some)) (RefI.next (mk := fun (i_ : Int) (s4 : Unit) => (i_ : Int)) (next_ok hi4 hs4)))))))) (fun R4 s4 => RefI.tt (idx_ok hi1) (RefI.ff lt_no (RefI.next (mk := fun (i_ : Int) (s1 : Unit) => (i_ : Int)) (next_ok hi1 hs1))))))))))) (fun R1 s1 => RefI.ff lt_no RefI.some)))
theorem f17.spec : SpecOK Try.prog 17 (sp17 f17.n) := specOK_o mx fn17 (cx := cx17 BIG) (fds := lookF fds17) (d := 4) tab specsOK_nil fdsOK_nil (fun x y h => (f17.run BIG x).trans (f17.ref x y h))
/-! f18 antipode/antipoderef8.May -/
noncomputable abbrev sp18 (F : ((List T49)) → Option (Bool)) : PM.Spec := spO [.one] (Row.cons (Ty.sl R49) (Row.nil)) (.one) (Row.cons (Ty.bool) (Row.nil)) F
def h18 : Nat → Option Hint
  | 0 => some { tm := [(3, Ty.int .i64, none)], bx := [] }
  | 2 => some { tm := [(5, Ty.int .i64, none)], bx := [] }
  | _ => none
noncomputable def fd18 : Body := { code := Try.f18.body.getD .skip, ntmps := Try.f18.ntmps, results := Try.f18.results.toList, hints := h18 }
theorem fn18 : FnOK Try.prog 18 fd18 Try.f18 := ⟨by kernel_rfl, by kernel_rfl, by kernel_rfl, by kernel_rfl, by kernel_rfl⟩
noncomputable def fds18 : List (Nat × Body) := []
noncomputable def cx18 (F24 : (Int × Int × Int × Int) → (Bool)) (N : Nat) : Ctx := { ti := tis, spec := PM.look [(24, sp24 F24)], n := N }
noncomputable def f18.t (F24 : (Int × Int × Int × Int) → (Bool)) (N : Nat) (x : (List T49)) : Option (Bool) :=
  loopT N (fun (k2 : (Int) → Option (Bool)) (v1 : Int) =>
    bif (decide (v1 < (x.length : Int))) then
      bif (decide (0 ≤ v1) && decide (v1 < (x.length : Int))) then
      lt (rd R49 x v1) fun e3 =>
      bif (!(decide (v1 > (0 : Int))) || (decide (0 ≤ (IntKind.wrap .i64 (v1 - (1 : Int)))) && decide ((IntKind.wrap .i64 (v1 - (1 : Int))) < (x.length : Int)))) then
      lt (rd R49 x (IntKind.wrap .i64 (v1 - (1 : Int)))) fun e4 =>
      bif (((((decide (v1 > (0 : Int))) && (!(Op.bytesLess e4.1.toList e3.1.toList))) || ((!e3.2.2.1) && (!((e3.2.2.2.1 == (0 : Int)) && ((e3.2.2.2.2.1 == (0 : Int)) && ((e3.2.2.2.2.2.1 == (0 : Int)) && ((e3.2.2.2.2.2.2.1 == (0 : Int)) && ((e3.2.2.2.2.2.2.2.1 == (0 : Int)) && ((e3.2.2.2.2.2.2.2.2.1 == (0 : Int)) && ((e3.2.2.2.2.2.2.2.2.2.1 == (0 : Int)) && ((e3.2.2.2.2.2.2.2.2.2.2.1 == false) && (e3.2.2.2.2.2.2.2.2.2.2.2.toList == (⟨#[]⟩ : ByteArray).toList)))))))))))) || (((e3.2.1.length : Int) == (0 : Int)) && (!e3.2.2.1))) || (e3.2.2.2.2.2.2.2.2.2.2.1 && (!(e3.2.2.2.2.2.2.2.2.2.2.2.toList == ({ data := #[] } : ByteArray).toList)))) then
        some false
      else
        loopT N (fun (k6 : (Int) → Option (Bool)) (v5 : Int) =>
          bif (decide (v5 < (e3.2.1.length : Int))) then
            bif (decide (0 ≤ v5) && decide (v5 < (e3.2.1.length : Int))) then
            lt (rd R65 e3.2.1 v5) fun e7 =>
            bif (!((!(e7.2.2.1 && (!(e7.2.2.2.toList == ({ data := #[] } : ByteArray).toList)))) && (decide (v5 > (0 : Int)))) || (decide (0 ≤ (IntKind.wrap .i64 (v5 - (1 : Int)))) && decide ((IntKind.wrap .i64 (v5 - (1 : Int))) < (e3.2.1.length : Int)))) then
            lt (rd R65 e3.2.1 (IntKind.wrap .i64 (v5 - (1 : Int)))) fun e8 =>
            bif (!((!(e7.2.2.1 && (!(e7.2.2.2.toList == ({ data := #[] } : ByteArray).toList)))) && (decide (v5 > (0 : Int)))) || true) then
            lt ((F24 (e8.1, e8.2.1, e7.1, e7.2.1))) fun y9 =>
            bif ((e7.2.2.1 && (!(e7.2.2.2.toList == ({ data := #[] } : ByteArray).toList))) || ((decide (v5 > (0 : Int))) && (!y9))) then
              some false
            else
              k6 (IntKind.wrap .i64 (v5 + (1 : Int)))
            else none
            else none
            else none
          else
            k2 (IntKind.wrap .i64 (v1 + (1 : Int)))) ((0 : Int) : Int)
      else none
      else none
    else
      some true) ((0 : Int) : Int)
theorem f18.run (F24 : (Int × Int × Int × Int) → (Bool)) (N : Nat) (x : (List T49)) : PM.runT (rb := Row.cons (Ty.bool) (Row.nil)) (cx18 F24 N) (PM.calls (cx18 F24 N) (lookF fds18) 4) fd18 [.one] (.one) (expl (Row.cons (Ty.sl R49) (Row.nil)) x) = f18.t F24 N x := by kernel_rfl
noncomputable def f18.n (x : (List T49)) : Option (Bool) :=
  if small x then
  bindE (foldI (fun (i1 : Nat) (a1 : T49) (s1 : Unit) =>
      if (!(decide ((i1 : Int) > (0 : Int))) || (decide (0 ≤ (IntKind.wrap .i64 ((i1 : Int) - (1 : Int)))) && decide ((IntKind.wrap .i64 ((i1 : Int) - (1 : Int))) < (x.length : Int)))) then
      lt (rd R49 x (IntKind.wrap .i64 ((i1 : Int) - (1 : Int)))) fun e4 =>
      if (((((decide ((i1 : Int) > (0 : Int))) && (!(Op.bytesLess e4.1.toList a1.1.toList))) || ((!a1.2.2.1) && (!((a1.2.2.2.1 == (0 : Int)) && ((a1.2.2.2.2.1 == (0 : Int)) && ((a1.2.2.2.2.2.1 == (0 : Int)) && ((a1.2.2.2.2.2.2.1 == (0 : Int)) && ((a1.2.2.2.2.2.2.2.1 == (0 : Int)) && ((a1.2.2.2.2.2.2.2.2.1 == (0 : Int)) && ((a1.2.2.2.2.2.2.2.2.2.1 == (0 : Int)) && ((a1.2.2.2.2.2.2.2.2.2.2.1 == false) && (a1.2.2.2.2.2.2.2.2.2.2.2.toList == (⟨#[]⟩ : ByteArray).toList)))))))))))) || (((a1.2.1.length : Int) == (0 : Int)) && (!a1.2.2.1))) || (a1.2.2.2.2.2.2.2.2.2.2.1 && (!(a1.2.2.2.2.2.2.2.2.2.2.2.toList == ({ data := #[] } : ByteArray).toList)))) then
        Res.ret (some false)
      else
        if small a1.2.1 then
        bindE (foldI (fun (i5 : Nat) (a5 : T65) (s5 : Unit) =>
            if (!((!(a5.2.2.1 && (!(a5.2.2.2.toList == ({ data := #[] } : ByteArray).toList)))) && (decide ((i5 : Int) > (0 : Int)))) || (decide (0 ≤ (IntKind.wrap .i64 ((i5 : Int) - (1 : Int)))) && decide ((IntKind.wrap .i64 ((i5 : Int) - (1 : Int))) < (a1.2.1.length : Int)))) then
            lt (rd R65 a1.2.1 (IntKind.wrap .i64 ((i5 : Int) - (1 : Int)))) fun e8 =>
            lt ((f24.p (e8.1, e8.2.1, a5.1, a5.2.1))) fun y9 =>
            if ((a5.2.2.1 && (!(a5.2.2.2.toList == ({ data := #[] } : ByteArray).toList))) || ((decide ((i5 : Int) > (0 : Int))) && (!y9))) then
              Res.ret (Res.ret (some false))
            else
              Res.go ()
            else bot) 0 a1.2.1 ()) fun s5 =>
        Res.go ()
        else bot
      else bot) 0 x ()) fun s1 =>
  some true
  else bot
theorem f18.ref (x : (List T49)) : RefI id (f18.n x) (f18.t f24.p BIG x) := (RefI.forI rfl (fun (i_ : Int) (s1 : Unit) => (i_ : Int)) (fun hs1 R1 i1 hi1 s1 => RefI.tt (lt_ok hi1) (RefI.tt (idx_ok hi1) (RefI.ltd (rd_ok hi1) (RefI.chk rfl (RefI.lt fun e4 => (RefI.ite (RefI.ret RefI.some) (RefI.forI rfl (fun (i_ : Int) (s5 : Unit) => (i_ : Int)) (fun hs5 R5 i5 hi5 s5 => RefI.tt (lt_ok hi5) (RefI.tt (idx_ok hi5) (RefI.ltd (rd_ok hi5) (RefI.chk rfl (RefI.lt fun e8 => (RefI.tt (Bool.or_true _) (RefI.lt fun y9 => (RefI.ite (RefI.ret (RefI.ret RefI.some)) (RefI.next (mk := fun (i_ : Int) (s5 : Unit) => (i_ : Int)) (next_ok hi5 hs5)))))))))) (fun R5 s5 => RefI.ff lt_no (RefI.next (mk := fun (i_ : Int) (s1 : Unit) => (i_ : Int)) (next_ok hi1 hs1)))))))))) (fun R1 s1 => RefI.ff lt_no RefI.some))
theorem f18.spec : SpecOK Try.prog 18 (sp18 f18.n) := specOK_o mx fn18 (cx := cx18 f24.p BIG) (fds := lookF fds18) (d := 4) tab (specsOK_cons f24.spec specsOK_nil) fdsOK_nil (fun x y h => (f18.run f24.p BIG x).trans (f18.ref x y h))
/-! f9 antipode/antipodelaw14.LightPart -/
noncomputable abbrev sp9 (F : (Int × Int × Int × Int × Int × Int × (List T49) × (List T68) × (List T68)) → Option (Bool)) : PM.Spec := spO [.agg 9] (Row.cons (Ty.int .i64) (Row.cons (Ty.int .i64) (Row.cons (Ty.int .i64) (Row.cons (Ty.int .i64) (Row.cons (Ty.int .i64) (Row.cons (Ty.int .i64) (Row.cons (Ty.sl R49) (Row.cons (Ty.sl R68) (Row.cons (Ty.sl R68) (Row.nil)))))))))) (.one) (Row.cons (Ty.bool) (Row.nil)) F
noncomputable def fd9 : Body := { code := Try.f9.body.getD .skip, ntmps := Try.f9.ntmps, results := Try.f9.results.toList, hints := fun _ => none }
theorem fn9 : FnOK Try.prog 9 fd9 Try.f9 := ⟨by kernel_rfl, by kernel_rfl, by kernel_rfl, by kernel_rfl, by kernel_rfl⟩
noncomputable def fds9 : List (Nat × Body) := []
noncomputable def cx9 (o17 : ((List T49)) → Option (Bool)) (N : Nat) : Ctx := { ti := tis, spec := PM.look [(17, sp17 o17)], n := N }
noncomputable def f9.t (o17 : ((List T49)) → Option (Bool)) (N : Nat) (x : Int × Int × Int × Int × Int × Int × (List T49) × (List T68) × (List T68)) : Option (Bool) :=
  bif (ok (o17 x.2.2.2.2.2.2.1)) then
  lt ((vl (o17 x.2.2.2.2.2.2.1))) fun y1 =>
  some ((y1 && (decide ((x.2.2.2.2.2.2.2.1.length : Int) < (100 : Int)))) && (decide ((x.2.2.2.2.2.2.2.2.length : Int) < (100 : Int))))
  else none
theorem f9.run (o17 : ((List T49)) → Option (Bool)) (N : Nat) (x : Int × Int × Int × Int × Int × Int × (List T49) × (List T68) × (List T68)) : PM.runT (rb := Row.cons (Ty.bool) (Row.nil)) (cx9 o17 N) (PM.calls (cx9 o17 N) (lookF fds9) 4) fd9 [.agg 9] (.one) (expl (Row.cons (Ty.int .i64) (Row.cons (Ty.int .i64) (Row.cons (Ty.int .i64) (Row.cons (Ty.int .i64) (Row.cons (Ty.int .i64) (Row.cons (Ty.int .i64) (Row.cons (Ty.sl R49) (Row.cons (Ty.sl R68) (Row.cons (Ty.sl R68) (Row.nil)))))))))) x) = f9.t o17 N x := by kernel_rfl
noncomputable def f9.n (x : Int × Int × Int × Int × Int × Int × (List T49) × (List T68) × (List T68)) : Option (Bool) :=
  bindO (f17.n x.2.2.2.2.2.2.1) fun y1 =>
  some ((y1 && (decide ((x.2.2.2.2.2.2.2.1.length : Int) < (100 : Int)))) && (decide ((x.2.2.2.2.2.2.2.2.length : Int) < (100 : Int))))
theorem f9.ref (x : Int × Int × Int × Int × Int × Int × (List T49) × (List T68) × (List T68)) : RefI id (f9.n x) (f9.t f17.n BIG x) := (RefI.bindO rfl fun y1 => RefI.some)
theorem f9.spec : SpecOK Try.prog 9 (sp9 f9.n) := specOK_o mx fn9 (cx := cx9 f17.n BIG) (fds := lookF fds9) (d := 4) tab (specsOK_cons f17.spec specsOK_nil) fdsOK_nil (fun x y h => (f9.run f17.n BIG x).trans (f9.ref x y h))
/-! f10 antipode/antipoderef23.May -/
noncomputable abbrev sp10 (F : (Int × Int × Int × Int × Int × Int × (List T49) × (List T68) × (List T68)) → Option (Bool)) : PM.Spec := spO [.agg 9] (Row.cons (Ty.int .i64) (Row.cons (Ty.int .i64) (Row.cons (Ty.int .i64) (Row.cons (Ty.int .i64) (Row.cons (Ty.int .i64) (Row.cons (Ty.int .i64) (Row.cons (Ty.sl R49) (Row.cons (Ty.sl R68) (Row.cons (Ty.sl R68) (Row.nil)))))))))) (.one) (Row.cons (Ty.bool) (Row.nil)) F
noncomputable def fd10 : Body := { code := Try.f10.body.getD .skip, ntmps := Try.f10.ntmps, results := Try.f10.results.toList, hints := fun _ => none }
theorem fn10 : FnOK Try.prog 10 fd10 Try.f10 := ⟨by kernel_rfl, by kernel_rfl, by kernel_rfl, by kernel_rfl, by kernel_rfl⟩
noncomputable def fds10 : List (Nat × Body) := []
noncomputable def cx10 (o18 : ((List T49)) → Option (Bool)) (o19 : ((List T68)) → Option (Bool)) (N : Nat) : Ctx := { ti := tis, spec := PM.look [(18, sp18 o18), (19, sp19 o19)], n := N }
noncomputable def f10.t (o18 : ((List T49)) → Option (Bool)) (o19 : ((List T68)) → Option (Bool)) (N : Nat) (x : Int × Int × Int × Int × Int × Int × (List T49) × (List T68) × (List T68)) : Option (Bool) :=
  bif (ok (o18 x.2.2.2.2.2.2.1)) then
  lt ((vl (o18 x.2.2.2.2.2.2.1))) fun y1 =>
  bif ((((!y1) || (decide (x.1 < (0 : Int)))) || (decide (x.1 > (1099511627776 : Int)))) || ((decide (x.2.2.2.2.2.1 > x.2.2.2.2.1)) && (x.2.2.2.2.2.1 != (0 : Int)))) then
    some false
  else
    bif (ok (o19 x.2.2.2.2.2.2.2.1)) then
    lt ((vl (o19 x.2.2.2.2.2.2.2.1))) fun y2 =>
    bif (!y2 || (ok (o19 x.2.2.2.2.2.2.2.2))) then
    lt ((vl (o19 x.2.2.2.2.2.2.2.2))) fun y3 =>
    some (y2 && y3)
    else none
    else none
  else none
theorem f10.run (o18 : ((List T49)) → Option (Bool)) (o19 : ((List T68)) → Option (Bool)) (N : Nat) (x : Int × Int × Int × Int × Int × Int × (List T49) × (List T68) × (List T68)) : PM.runT (rb := Row.cons (Ty.bool) (Row.nil)) (cx10 o18 o19 N) (PM.calls (cx10 o18 o19 N) (lookF fds10) 4) fd10 [.agg 9] (.one) (expl (Row.cons (Ty.int .i64) (Row.cons (Ty.int .i64) (Row.cons (Ty.int .i64) (Row.cons (Ty.int .i64) (Row.cons (Ty.int .i64) (Row.cons (Ty.int .i64) (Row.cons (Ty.sl R49) (Row.cons (Ty.sl R68) (Row.cons (Ty.sl R68) (Row.nil)))))))))) x) = f10.t o18 o19 N x := by kernel_rfl
noncomputable def f10.n (x : Int × Int × Int × Int × Int × Int × (List T49) × (List T68) × (List T68)) : Option (Bool) :=
  bindO (f18.n x.2.2.2.2.2.2.1) fun y1 =>
  if ((((!y1) || (decide (x.1 < (0 : Int)))) || (decide (x.1 > (1099511627776 : Int)))) || ((decide (x.2.2.2.2.2.1 > x.2.2.2.2.1)) && (x.2.2.2.2.2.1 != (0 : Int)))) then
    some false
  else
    bindO (f19.n x.2.2.2.2.2.2.2.1) fun y2 =>
    if (!y2 || (ok (f19.n x.2.2.2.2.2.2.2.2))) then
    lt ((vl (f19.n x.2.2.2.2.2.2.2.2))) fun y3 =>
    some (y2 && y3)
    else bot
theorem f10.ref (x : Int × Int × Int × Int × Int × Int × (List T49) × (List T68) × (List T68)) : RefI id (f10.n x) (f10.t f18.n f19.n BIG x) := (RefI.bindO rfl fun y1 => (RefI.ite RefI.some (RefI.bindO rfl fun y2 => (RefI.chk rfl (RefI.lt fun y3 => RefI.some)))))
theorem f10.spec : SpecOK Try.prog 10 (sp10 f10.n) := specOK_o mx fn10 (cx := cx10 f18.n f19.n BIG) (fds := lookF fds10) (d := 4) tab (specsOK_cons f18.spec (specsOK_cons f19.spec specsOK_nil)) fdsOK_nil (fun x y h => (f10.run f18.n f19.n BIG x).trans (f10.ref x y h))
/-! f20 antipode/mvcc.Blocks -/
noncomputable abbrev sp20 (F : ((List T49) × ByteArray × ByteArray × Int × Int) → Option (Int × Int × Int × Int × Int × Int × Int × Bool × ByteArray × Bool)) : PM.Spec := spO [.one, .agg 2, .agg 2] (Row.cons (Ty.sl R49) (Row.cons (Ty.str) (Row.cons (Ty.str) (Row.cons (Ty.int .i64) (Row.cons (Ty.int .i64) (Row.nil)))))) (.tup [(true, 9), (false, 1)]) (Row.cons (Ty.int .i64) (Row.cons (Ty.int .i64) (Row.cons (Ty.int .i64) (Row.cons (Ty.int .i64) (Row.cons (Ty.int .i64) (Row.cons (Ty.int .i64) (Row.cons (Ty.int .i64) (Row.cons (Ty.bool) (Row.cons (Ty.str) (Row.cons (Ty.bool) (Row.nil))))))))))) F
def h20 : Nat → Option Hint
  | 0 => some { tm := [(14, Ty.int .i64, none)], bx := [(2, 0, Ty.int .i64, none), (2, 1, Ty.int .i64, none), (2, 2, Ty.int .i64, none), (2, 3, Ty.int .i64, none), (2, 4, Ty.int .i64, none), (2, 5, Ty.int .i64, none), (2, 6, Ty.int .i64, none), (2, 7, Ty.bool, none), (2, 8, Ty.str, none)] }
  | _ => none
noncomputable def fd20 : Body := { code := Try.f20.body.getD .skip, ntmps := Try.f20.ntmps, results := Try.f20.results.toList, hints := h20 }
theorem fn20 : FnOK Try.prog 20 fd20 Try.f20 := ⟨by kernel_rfl, by kernel_rfl, by kernel_rfl, by kernel_rfl, by kernel_rfl⟩
noncomputable def fds20 : List (Nat × Body) := []
noncomputable def cx20 (o26 : ((List T49) × ByteArray × ByteArray) → Option ((List T49))) (o27 : (Int × Int × Int × Int) → Option (Bool)) (N : Nat) : Ctx := { ti := tis, spec := PM.look [(26, sp26 o26), (27, sp27 o27)], n := N }
noncomputable def f20.t (o26 : ((List T49) × ByteArray × ByteArray) → Option ((List T49))) (o27 : (Int × Int × Int × Int) → Option (Bool)) (N : Nat) (x : (List T49) × ByteArray × ByteArray × Int × Int) : Option (Int × Int × Int × Int × Int × Int × Int × Bool × ByteArray × Bool) :=
  bif (ok (o26 (x.1, x.2.1, x.2.2.1))) then
  lt ((vl (o26 (x.1, x.2.1, x.2.2.1)))) fun y1 =>
  loopT N (fun (k3 : (Int × Int × Int × Int × Int × Int × Int × Int × Bool × ByteArray) → Option (Int × Int × Int × Int × Int × Int × Int × Bool × ByteArray × Bool)) (v2 : Int × Int × Int × Int × Int × Int × Int × Int × Bool × ByteArray) =>
    bif (decide (v2.1 < (y1.length : Int))) then
      bif (decide (0 ≤ v2.1) && decide (v2.1 < (y1.length : Int))) then
      lt (rd R49 y1 v2.1) fun e4 =>
      bif (!e4.2.2.1 || (ok (o27 (x.2.2.2.1, x.2.2.2.2, e4.2.2.2.2.2.2.2.2.1, e4.2.2.2.2.2.2.2.2.2.1)))) then
      lt ((vl (o27 (x.2.2.2.1, x.2.2.2.2, e4.2.2.2.2.2.2.2.2.1, e4.2.2.2.2.2.2.2.2.2.1)))) fun y5 =>
      bif (e4.2.2.1 && (!y5)) then
        some (e4.2.2.2.1, e4.2.2.2.2.1, e4.2.2.2.2.2.1, e4.2.2.2.2.2.2.1, e4.2.2.2.2.2.2.2.1, e4.2.2.2.2.2.2.2.2.1, e4.2.2.2.2.2.2.2.2.2.1, e4.2.2.2.2.2.2.2.2.2.2.1, e4.2.2.2.2.2.2.2.2.2.2.2, true)
      else
        k3 ((IntKind.wrap .i64 (v2.1 + (1 : Int))), v2.2)
      else none
      else none
    else
      some ((0 : Int), (0 : Int), (0 : Int), (0 : Int), (0 : Int), (0 : Int), (0 : Int), false, (⟨#[]⟩ : ByteArray), false)) (((0 : Int), (0 : Int), (0 : Int), (0 : Int), (0 : Int), (0 : Int), (0 : Int), (0 : Int), false, (⟨#[]⟩ : ByteArray)) : Int × Int × Int × Int × Int × Int × Int × Int × Bool × ByteArray)
  else none
theorem f20.run (o26 : ((List T49) × ByteArray × ByteArray) → Option ((List T49))) (o27 : (Int × Int × Int × Int) → Option (Bool)) (N : Nat) (x : (List T49) × ByteArray × ByteArray × Int × Int) : PM.runT (rb := Row.cons (Ty.int .i64) (Row.cons (Ty.int .i64) (Row.cons (Ty.int .i64) (Row.cons (Ty.int .i64) (Row.cons (Ty.int .i64) (Row.cons (Ty.int .i64) (Row.cons (Ty.int .i64) (Row.cons (Ty.bool) (Row.cons (Ty.str) (Row.cons (Ty.bool) (Row.nil))))))))))) (cx20 o26 o27 N) (PM.calls (cx20 o26 o27 N) (lookF fds20) 4) fd20 [.one, .agg 2, .agg 2] (.tup [(true, 9), (false, 1)]) (expl (Row.cons (Ty.sl R49) (Row.cons (Ty.str) (Row.cons (Ty.str) (Row.cons (Ty.int .i64) (Row.cons (Ty.int .i64) (Row.nil)))))) x) = f20.t o26 o27 N x := by kernel_rfl
noncomputable def f20.n (x : (List T49) × ByteArray × ByteArray × Int × Int) : Option (Int × Int × Int × Int × Int × Int × Int × Bool × ByteArray × Bool) :=
  bindO (f26.n (x.1, x.2.1, x.2.2.1)) fun y1 =>
  if small y1 then
  bindE (foldE (fun (a2 : T49) (s2 : Unit) =>
      if (!a2.2.2.1 || (ok (f27.n (x.2.2.2.1, x.2.2.2.2, a2.2.2.2.2.2.2.2.2.1, a2.2.2.2.2.2.2.2.2.2.1)))) then
      lt ((vl (f27.n (x.2.2.2.1, x.2.2.2.2, a2.2.2.2.2.2.2.2.2.1, a2.2.2.2.2.2.2.2.2.2.1)))) fun y5 =>
      if (a2.2.2.1 && (!y5)) then
        Res.ret (some (a2.2.2.2.1, a2.2.2.2.2.1, a2.2.2.2.2.2.1, a2.2.2.2.2.2.2.1, a2.2.2.2.2.2.2.2.1, a2.2.2.2.2.2.2.2.2.1, a2.2.2.2.2.2.2.2.2.2.1, a2.2.2.2.2.2.2.2.2.2.2.1, a2.2.2.2.2.2.2.2.2.2.2.2, true))
      else
        Res.go ()
      else bot) y1 ()) fun s2 =>
  some ((0 : Int), (0 : Int), (0 : Int), (0 : Int), (0 : Int), (0 : Int), (0 : Int), false, (⟨#[]⟩ : ByteArray), false)
  else bot
theorem f20.ref (x : (List T49) × ByteArray × ByteArray × Int × Int) : RefI id (f20.n x) (f20.t f26.n f27.n BIG x) := (RefI.bindO rfl fun y1 => (RefI.for rfl (fun (i_ : Int) (s2 : Unit) => ((i_, (0 : Int), (0 : Int), (0 : Int), (0 : Int), (0 : Int), (0 : Int), (0 : Int), false, (⟨#[]⟩ : ByteArray)) : Int × Int × Int × Int × Int × Int × Int × Int × Bool × ByteArray)) (fun hs2 R2 i2 hi2 s2 => RefI.tt (lt_ok hi2) (RefI.tt (idx_ok hi2) (RefI.ltd (rd_ok hi2) (RefI.chk rfl (RefI.lt fun y5 => (RefI.ite (RefI.ret RefI.some) (RefI.next (mk := fun (i_ : Int) (s2 : Unit) => ((i_, (0 : Int), (0 : Int), (0 : Int), (0 : Int), (0 : Int), (0 : Int), (0 : Int), false, (⟨#[]⟩ : ByteArray)) : Int × Int × Int × Int × Int × Int × Int × Int × Bool × ByteArray)) (next_ok hi2 hs2)))))))) (fun R2 s2 => RefI.ff lt_no RefI.some)))
theorem f20.spec : SpecOK Try.prog 20 (sp20 f20.n) := specOK_o mx fn20 (cx := cx20 f26.n f27.n BIG) (fds := lookF fds20) (d := 4) tab (specsOK_cons f26.spec (specsOK_cons f27.spec specsOK_nil)) fdsOK_nil (fun x y h => (f20.run f26.n f27.n BIG x).trans (f20.ref x y h))
/-! f21 antipode/mvcc.Scan -/
noncomputable abbrev sp21 (F : ((List T49) × ByteArray × ByteArray × Int × Int × Int) → Option ((List T41) × Int)) : PM.Spec := spO [.one, .agg 2, .agg 2, .one] (Row.cons (Ty.sl R49) (Row.cons (Ty.str) (Row.cons (Ty.str) (Row.cons (Ty.int .i64) (Row.cons (Ty.int .i64) (Row.cons (Ty.int .i64) (Row.nil))))))) (.tup [(false, 1), (false, 1)]) (Row.cons (Ty.sl R41) (Row.cons (Ty.int .i64) (Row.nil))) F
def h21 : Nat → Option Hint
  | 0 => some { tm := [(10, Ty.sl R41, some 41), (19, Ty.int .i64, none)], bx := [] }
  | _ => none
noncomputable def fd21 : Body := { code := Try.f21.body.getD .skip, ntmps := Try.f21.ntmps, results := Try.f21.results.toList, hints := h21 }
theorem fn21 : FnOK Try.prog 21 fd21 Try.f21 := ⟨by kernel_rfl, by kernel_rfl, by kernel_rfl, by kernel_rfl, by kernel_rfl⟩
noncomputable def fds21 : List (Nat × Body) := []
noncomputable def cx21 (o26 : ((List T49) × ByteArray × ByteArray) → Option ((List T49))) (o28 : (ByteArray × (List T65) × Bool × Int × Int × Int × Int × Int × Int × Int × Bool × ByteArray × Int × Int) → Option (ByteArray × Bool)) (N : Nat) : Ctx := { ti := tis, spec := PM.look [(26, sp26 o26), (28, sp28 o28)], n := N }
noncomputable def f21.t (o26 : ((List T49) × ByteArray × ByteArray) → Option ((List T49))) (o28 : (ByteArray × (List T65) × Bool × Int × Int × Int × Int × Int × Int × Int × Bool × ByteArray × Int × Int) → Option (ByteArray × Bool)) (N : Nat) (x : (List T49) × ByteArray × ByteArray × Int × Int × Int) : Option ((List T41) × Int) :=
  bif (ok (o26 (x.1, x.2.1, x.2.2.1))) then
  lt ((vl (o26 (x.1, x.2.1, x.2.2.1)))) fun y1 =>
  loopT N (fun (k3 : ((List T41) × Int) → Option ((List T41) × Int)) (v2 : (List T41) × Int) =>
    bif (decide (v2.2 < (y1.length : Int))) then
      bif (decide (0 ≤ v2.2) && decide (v2.2 < (y1.length : Int))) then
      lt (rd R49 y1 v2.2) fun e4 =>
      bif (ok (o28 (e4.1, e4.2.1, e4.2.2.1, e4.2.2.2.1, e4.2.2.2.2.1, e4.2.2.2.2.2.1, e4.2.2.2.2.2.2.1, e4.2.2.2.2.2.2.2.1, e4.2.2.2.2.2.2.2.2.1, e4.2.2.2.2.2.2.2.2.2.1, e4.2.2.2.2.2.2.2.2.2.2.1, e4.2.2.2.2.2.2.2.2.2.2.2, x.2.2.2.1, x.2.2.2.2.1))) then
      lt ((vl (o28 (e4.1, e4.2.1, e4.2.2.1, e4.2.2.2.1, e4.2.2.2.2.1, e4.2.2.2.2.2.1, e4.2.2.2.2.2.2.1, e4.2.2.2.2.2.2.2.1, e4.2.2.2.2.2.2.2.2.1, e4.2.2.2.2.2.2.2.2.2.1, e4.2.2.2.2.2.2.2.2.2.2.1, e4.2.2.2.2.2.2.2.2.2.2.2, x.2.2.2.1, x.2.2.2.2.1)))) fun y5 =>
      bif (!y5.2) then
        k3 (v2.1, (IntKind.wrap .i64 (v2.2 + (1 : Int))))
      else
        bif (decide ((v2.1.length : Int) ≥ x.2.2.2.2.2)) then
          some ([], (3 : Int))
        else
          bif Nat.ble ((v2.1.length + ([(e4.1, y5.1)]).length) * 32) LIM then
          k3 ((v2.1 ++ [(e4.1, y5.1)]), (IntKind.wrap .i64 (v2.2 + (1 : Int))))
          else none
      else none
      else none
    else
      some (v2.1, (0 : Int))) (([], (0 : Int)) : (List T41) × Int)
  else none
theorem f21.run (o26 : ((List T49) × ByteArray × ByteArray) → Option ((List T49))) (o28 : (ByteArray × (List T65) × Bool × Int × Int × Int × Int × Int × Int × Int × Bool × ByteArray × Int × Int) → Option (ByteArray × Bool)) (N : Nat) (x : (List T49) × ByteArray × ByteArray × Int × Int × Int) : PM.runT (rb := Row.cons (Ty.sl R41) (Row.cons (Ty.int .i64) (Row.nil))) (cx21 o26 o28 N) (PM.calls (cx21 o26 o28 N) (lookF fds21) 4) fd21 [.one, .agg 2, .agg 2, .one] (.tup [(false, 1), (false, 1)]) (expl (Row.cons (Ty.sl R49) (Row.cons (Ty.str) (Row.cons (Ty.str) (Row.cons (Ty.int .i64) (Row.cons (Ty.int .i64) (Row.cons (Ty.int .i64) (Row.nil))))))) x) = f21.t o26 o28 N x := by kernel_rfl
noncomputable def f21.n (x : (List T49) × ByteArray × ByteArray × Int × Int × Int) : Option ((List T41) × Int) :=
  bindO (f26.n (x.1, x.2.1, x.2.2.1)) fun y1 =>
  if small y1 then
  bindE (foldE (fun (a2 : T49) (s2 : (List T41)) =>
      bindO (f28.n (a2.1, a2.2.1, a2.2.2.1, a2.2.2.2.1, a2.2.2.2.2.1, a2.2.2.2.2.2.1, a2.2.2.2.2.2.2.1, a2.2.2.2.2.2.2.2.1, a2.2.2.2.2.2.2.2.2.1, a2.2.2.2.2.2.2.2.2.2.1, a2.2.2.2.2.2.2.2.2.2.2.1, a2.2.2.2.2.2.2.2.2.2.2.2, x.2.2.2.1, x.2.2.2.2.1)) fun y5 =>
      if (!y5.2) then
        Res.go s2
      else
        if (decide ((s2.length : Int) ≥ x.2.2.2.2.2)) then
          Res.ret (some ([], (3 : Int)))
        else
          if Nat.ble ((s2.length + ([(a2.1, y5.1)]).length) * 32) LIM then
          Res.go (s2 ++ [(a2.1, y5.1)])
          else bot) y1 []) fun s2 =>
  some (s2, (0 : Int))
  else bot
theorem f21.ref (x : (List T49) × ByteArray × ByteArray × Int × Int × Int) : RefI id (f21.n x) (f21.t f26.n f28.n BIG x) := (RefI.bindO rfl fun y1 => (RefI.for rfl (fun (i_ : Int) (s2 : (List T41)) => ((s2, i_) : (List T41) × Int)) (fun hs2 R2 i2 hi2 s2 => RefI.tt (lt_ok hi2) (RefI.tt (idx_ok hi2) (RefI.ltd (rd_ok hi2) (RefI.bindO rfl fun y5 => (RefI.ite (RefI.next (mk := fun (i_ : Int) (s2 : (List T41)) => ((s2, i_) : (List T41) × Int)) (next_ok hi2 hs2)) (RefI.ite (RefI.ret RefI.some) (RefI.chk rfl (RefI.next (mk := fun (i_ : Int) (s2 : (List T41)) => ((s2, i_) : (List T41) × Int)) (next_ok hi2 hs2))))))))) (fun R2 s2 => RefI.ff lt_no RefI.some)))
theorem f21.spec : SpecOK Try.prog 21 (sp21 f21.n) := specOK_o mx fn21 (cx := cx21 f26.n f28.n BIG) (fds := lookF fds21) (d := 4) tab (specsOK_cons f26.spec (specsOK_cons f28.spec specsOK_nil)) fdsOK_nil (fun x y h => (f21.run f26.n f28.n BIG x).trans (f21.ref x y h))
/-! f11 antipode/stale.Local -/
noncomputable abbrev sp11 (F : (Int × Int × Int × Int × Int × Int × (List T49) × (List T68) × (List T68) × Int × Int × (List T55)) → Option ((List T41) × Int)) : PM.Spec := spO [.agg 9, .agg 2, .one] (Row.cons (Ty.int .i64) (Row.cons (Ty.int .i64) (Row.cons (Ty.int .i64) (Row.cons (Ty.int .i64) (Row.cons (Ty.int .i64) (Row.cons (Ty.int .i64) (Row.cons (Ty.sl R49) (Row.cons (Ty.sl R68) (Row.cons (Ty.sl R68) (Row.cons (Ty.int .i64) (Row.cons (Ty.int .i64) (Row.cons (Ty.sl R55) (Row.nil))))))))))))) (.tup [(false, 1), (false, 1)]) (Row.cons (Ty.sl R41) (Row.cons (Ty.int .i64) (Row.nil))) F
def h11 : Nat → Option Hint
  | 1 => some { tm := [(31, Ty.int .i64, none)], bx := [] }
  | 3 => some { tm := [(12, Ty.sl R41, some 41), (47, Ty.int .i64, none)], bx := [] }
  | _ => none
noncomputable def fd11 : Body := { code := Try.f11.body.getD .skip, ntmps := Try.f11.ntmps, results := Try.f11.results.toList, hints := h11 }
theorem fn11 : FnOK Try.prog 11 fd11 Try.f11 := ⟨by kernel_rfl, by kernel_rfl, by kernel_rfl, by kernel_rfl, by kernel_rfl⟩
noncomputable def fds11 : List (Nat × Body) := []
noncomputable def cx11 (o20 : ((List T49) × ByteArray × ByteArray × Int × Int) → Option (Int × Int × Int × Int × Int × Int × Int × Bool × ByteArray × Bool)) (o21 : ((List T49) × ByteArray × ByteArray × Int × Int × Int) → Option ((List T41) × Int)) (N : Nat) : Ctx := { ti := tis, spec := PM.look [(20, sp20 o20), (21, sp21 o21)], n := N }
noncomputable def f11.t (o20 : ((List T49) × ByteArray × ByteArray × Int × Int) → Option (Int × Int × Int × Int × Int × Int × Int × Bool × ByteArray × Bool)) (o21 : ((List T49) × ByteArray × ByteArray × Int × Int × Int) → Option ((List T41) × Int)) (N : Nat) (x : Int × Int × Int × Int × Int × Int × (List T49) × (List T68) × (List T68) × Int × Int × (List T55)) : Option ((List T41) × Int) :=
  bif (decide (x.2.2.2.2.2.2.2.2.2.1 < x.2.2.2.2.2.1)) then
    some ([], (24 : Int))
  else
    bif (decide (x.2.2.2.2.2.2.2.2.2.1 > x.2.2.2.2.1)) then
      some ([], (23 : Int))
    else
      loopT N (fun (k2 : (Int) → Option ((List T41) × Int)) (v1 : Int) =>
        bif (decide (v1 < (x.2.2.2.2.2.2.2.2.2.2.2.length : Int))) then
          bif (decide (0 ≤ v1) && decide (v1 < (x.2.2.2.2.2.2.2.2.2.2.2.length : Int))) then
          lt (rd R55 x.2.2.2.2.2.2.2.2.2.2.2 v1) fun e3 =>
          bif (ok (o20 (x.2.2.2.2.2.2.1, e3.1, e3.2, x.2.2.2.2.2.2.2.2.2.1, x.2.2.2.2.2.2.2.2.2.2.1))) then
          lt ((vl (o20 (x.2.2.2.2.2.2.1, e3.1, e3.2, x.2.2.2.2.2.2.2.2.2.1, x.2.2.2.2.2.2.2.2.2.2.1)))) fun y4 =>
          bif y4.2.2.2.2.2.2.2.2.2 then
            some ([], (20 : Int))
          else
            k2 (IntKind.wrap .i64 (v1 + (1 : Int)))
          else none
          else none
        else
          loopT N (fun (k6 : ((List T41) × Int) → Option ((List T41) × Int)) (v5 : (List T41) × Int) =>
            bif (decide (v5.2 < (x.2.2.2.2.2.2.2.2.2.2.2.length : Int))) then
              bif (decide (0 ≤ v5.2) && decide (v5.2 < (x.2.2.2.2.2.2.2.2.2.2.2.length : Int))) then
              lt (rd R55 x.2.2.2.2.2.2.2.2.2.2.2 v5.2) fun e7 =>
              bif (ok (o21 (x.2.2.2.2.2.2.1, e7.1, e7.2, x.2.2.2.2.2.2.2.2.2.1, x.2.2.2.2.2.2.2.2.2.2.1, (IntKind.wrap .i64 ((512 : Int) - (v5.1.length : Int)))))) then
              lt ((vl (o21 (x.2.2.2.2.2.2.1, e7.1, e7.2, x.2.2.2.2.2.2.2.2.2.1, x.2.2.2.2.2.2.2.2.2.2.1, (IntKind.wrap .i64 ((512 : Int) - (v5.1.length : Int))))))) fun y8 =>
              bif (y8.2 != (0 : Int)) then
                some ([], y8.2)
              else
                bif Nat.ble ((v5.1.length + y8.1.length) * 32) LIM then
                k6 ((v5.1 ++ y8.1), (IntKind.wrap .i64 (v5.2 + (1 : Int))))
                else none
              else none
              else none
            else
              some (v5.1, (0 : Int))) (([], (0 : Int)) : (List T41) × Int)) ((0 : Int) : Int)
theorem f11.run (o20 : ((List T49) × ByteArray × ByteArray × Int × Int) → Option (Int × Int × Int × Int × Int × Int × Int × Bool × ByteArray × Bool)) (o21 : ((List T49) × ByteArray × ByteArray × Int × Int × Int) → Option ((List T41) × Int)) (N : Nat) (x : Int × Int × Int × Int × Int × Int × (List T49) × (List T68) × (List T68) × Int × Int × (List T55)) : PM.runT (rb := Row.cons (Ty.sl R41) (Row.cons (Ty.int .i64) (Row.nil))) (cx11 o20 o21 N) (PM.calls (cx11 o20 o21 N) (lookF fds11) 4) fd11 [.agg 9, .agg 2, .one] (.tup [(false, 1), (false, 1)]) (expl (Row.cons (Ty.int .i64) (Row.cons (Ty.int .i64) (Row.cons (Ty.int .i64) (Row.cons (Ty.int .i64) (Row.cons (Ty.int .i64) (Row.cons (Ty.int .i64) (Row.cons (Ty.sl R49) (Row.cons (Ty.sl R68) (Row.cons (Ty.sl R68) (Row.cons (Ty.int .i64) (Row.cons (Ty.int .i64) (Row.cons (Ty.sl R55) (Row.nil))))))))))))) x) = f11.t o20 o21 N x := by kernel_rfl
noncomputable def f11.n (x : Int × Int × Int × Int × Int × Int × (List T49) × (List T68) × (List T68) × Int × Int × (List T55)) : Option ((List T41) × Int) :=
  if (decide (x.2.2.2.2.2.2.2.2.2.1 < x.2.2.2.2.2.1)) then
    some ([], (24 : Int))
  else
    if (decide (x.2.2.2.2.2.2.2.2.2.1 > x.2.2.2.2.1)) then
      some ([], (23 : Int))
    else
      if small x.2.2.2.2.2.2.2.2.2.2.2 then
      bindE (foldE (fun (a1 : T55) (s1 : Unit) =>
          bindO (f20.n (x.2.2.2.2.2.2.1, a1.1, a1.2, x.2.2.2.2.2.2.2.2.2.1, x.2.2.2.2.2.2.2.2.2.2.1)) fun y4 =>
          if y4.2.2.2.2.2.2.2.2.2 then
            Res.ret (some ([], (20 : Int)))
          else
            Res.go ()) x.2.2.2.2.2.2.2.2.2.2.2 ()) fun s1 =>
      if small x.2.2.2.2.2.2.2.2.2.2.2 then
      bindE (foldE (fun (a5 : T55) (s5 : (List T41)) =>
          bindO (f21.n (x.2.2.2.2.2.2.1, a5.1, a5.2, x.2.2.2.2.2.2.2.2.2.1, x.2.2.2.2.2.2.2.2.2.2.1, (IntKind.wrap .i64 ((512 : Int) - (s5.length : Int))))) fun y8 =>
          if (y8.2 != (0 : Int)) then
            Res.ret (some ([], y8.2))
          else
            if Nat.ble ((s5.length + y8.1.length) * 32) LIM then
            Res.go (s5 ++ y8.1)
            else bot) x.2.2.2.2.2.2.2.2.2.2.2 []) fun s5 =>
      some (s5, (0 : Int))
      else bot
      else bot
theorem f11.ref (x : Int × Int × Int × Int × Int × Int × (List T49) × (List T68) × (List T68) × Int × Int × (List T55)) : RefI id (f11.n x) (f11.t f20.n f21.n BIG x) := (RefI.ite RefI.some (RefI.ite RefI.some (RefI.for rfl (fun (i_ : Int) (s1 : Unit) => (i_ : Int)) (fun hs1 R1 i1 hi1 s1 => RefI.tt (lt_ok hi1) (RefI.tt (idx_ok hi1) (RefI.ltd (rd_ok hi1) (RefI.bindO rfl fun y4 => (RefI.ite (RefI.ret RefI.some) (RefI.next (mk := fun (i_ : Int) (s1 : Unit) => (i_ : Int)) (next_ok hi1 hs1))))))) (fun R1 s1 => RefI.ff lt_no (RefI.for rfl (fun (i_ : Int) (s5 : (List T41)) => ((s5, i_) : (List T41) × Int)) (fun hs5 R5 i5 hi5 s5 => RefI.tt (lt_ok hi5) (RefI.tt (idx_ok hi5) (RefI.ltd (rd_ok hi5) (RefI.bindO rfl fun y8 => (RefI.ite (RefI.ret RefI.some) (RefI.chk rfl (RefI.next (mk := fun (i_ : Int) (s5 : (List T41)) => ((s5, i_) : (List T41) × Int)) (next_ok hi5 hs5)))))))) (fun R5 s5 => RefI.ff lt_no RefI.some))))))
theorem f11.spec : SpecOK Try.prog 11 (sp11 f11.n) := specOK_o mx fn11 (cx := cx11 f20.n f21.n BIG) (fds := lookF fds11) (d := 4) tab (specsOK_cons f20.spec (specsOK_cons f21.spec specsOK_nil)) fdsOK_nil (fun x y h => (f11.run f20.n f21.n BIG x).trans (f11.ref x y h))
/-! f12 antipode/antipoderef25.Local -/
noncomputable abbrev sp12 (F : (Int × Int × Int × Int × Int × Int × (List T49) × (List T68) × (List T68) × Int × Int × (List T55)) → Option ((List T41) × Int)) : PM.Spec := spO [.agg 9, .agg 2, .one] (Row.cons (Ty.int .i64) (Row.cons (Ty.int .i64) (Row.cons (Ty.int .i64) (Row.cons (Ty.int .i64) (Row.cons (Ty.int .i64) (Row.cons (Ty.int .i64) (Row.cons (Ty.sl R49) (Row.cons (Ty.sl R68) (Row.cons (Ty.sl R68) (Row.cons (Ty.int .i64) (Row.cons (Ty.int .i64) (Row.cons (Ty.sl R55) (Row.nil))))))))))))) (.tup [(false, 1), (false, 1)]) (Row.cons (Ty.sl R41) (Row.cons (Ty.int .i64) (Row.nil))) F
noncomputable def fd12 : Body := { code := Try.f12.body.getD .skip, ntmps := Try.f12.ntmps, results := Try.f12.results.toList, hints := fun _ => none }
theorem fn12 : FnOK Try.prog 12 fd12 Try.f12 := ⟨by kernel_rfl, by kernel_rfl, by kernel_rfl, by kernel_rfl, by kernel_rfl⟩
noncomputable def fds12 : List (Nat × Body) := []
noncomputable def cx12 (o22 : (Int × Int × Int × Int × Int × Int × (List T49) × (List T68) × (List T68) × Int × Int × (List T55)) → Option ((List T41) × Int × (List T41) × Int × Int × Int × Int × Int × Int × Int × Int × Bool)) (N : Nat) : Ctx := { ti := tis, spec := PM.look [(22, sp22 o22)], n := N }
noncomputable def f12.t (o22 : (Int × Int × Int × Int × Int × Int × (List T49) × (List T68) × (List T68) × Int × Int × (List T55)) → Option ((List T41) × Int × (List T41) × Int × Int × Int × Int × Int × Int × Int × Int × Bool)) (N : Nat) (x : Int × Int × Int × Int × Int × Int × (List T49) × (List T68) × (List T68) × Int × Int × (List T55)) : Option ((List T41) × Int) :=
  bif (decide (x.2.2.2.2.2.2.2.2.2.1 < x.2.2.2.2.2.1)) then
    some ([], (24 : Int))
  else
    bif (decide (x.2.2.2.2.2.2.2.2.2.1 > x.2.2.2.2.1)) then
      some ([], (23 : Int))
    else
      bif (ok (o22 x)) then
      lt ((vl (o22 x))) fun y1 =>
      bif (y1.2.1 != (0 : Int)) then
        some ([], y1.2.1)
      else
        some (y1.1, (0 : Int))
      else none
theorem f12.run (o22 : (Int × Int × Int × Int × Int × Int × (List T49) × (List T68) × (List T68) × Int × Int × (List T55)) → Option ((List T41) × Int × (List T41) × Int × Int × Int × Int × Int × Int × Int × Int × Bool)) (N : Nat) (x : Int × Int × Int × Int × Int × Int × (List T49) × (List T68) × (List T68) × Int × Int × (List T55)) : PM.runT (rb := Row.cons (Ty.sl R41) (Row.cons (Ty.int .i64) (Row.nil))) (cx12 o22 N) (PM.calls (cx12 o22 N) (lookF fds12) 4) fd12 [.agg 9, .agg 2, .one] (.tup [(false, 1), (false, 1)]) (expl (Row.cons (Ty.int .i64) (Row.cons (Ty.int .i64) (Row.cons (Ty.int .i64) (Row.cons (Ty.int .i64) (Row.cons (Ty.int .i64) (Row.cons (Ty.int .i64) (Row.cons (Ty.sl R49) (Row.cons (Ty.sl R68) (Row.cons (Ty.sl R68) (Row.cons (Ty.int .i64) (Row.cons (Ty.int .i64) (Row.cons (Ty.sl R55) (Row.nil))))))))))))) x) = f12.t o22 N x := by kernel_rfl
noncomputable def f12.n (x : Int × Int × Int × Int × Int × Int × (List T49) × (List T68) × (List T68) × Int × Int × (List T55)) : Option ((List T41) × Int) :=
  if (decide (x.2.2.2.2.2.2.2.2.2.1 < x.2.2.2.2.2.1)) then
    some ([], (24 : Int))
  else
    if (decide (x.2.2.2.2.2.2.2.2.2.1 > x.2.2.2.2.1)) then
      some ([], (23 : Int))
    else
      bindO (f22.n x) fun y1 =>
      if (y1.2.1 != (0 : Int)) then
        some ([], y1.2.1)
      else
        some (y1.1, (0 : Int))
theorem f12.ref (x : Int × Int × Int × Int × Int × Int × (List T49) × (List T68) × (List T68) × Int × Int × (List T55)) : RefI id (f12.n x) (f12.t f22.n BIG x) := (RefI.ite RefI.some (RefI.ite RefI.some (RefI.bindO rfl fun y1 => (RefI.ite RefI.some RefI.some))))
theorem f12.spec : SpecOK Try.prog 12 (sp12 f12.n) := specOK_o mx fn12 (cx := cx12 f22.n BIG) (fds := lookF fds12) (d := 4) tab (specsOK_cons f22.spec specsOK_nil) fdsOK_nil (fun x y h => (f12.run f22.n BIG x).trans (f12.ref x y h))
/-! f13 antipode/stale.Safe -/
noncomputable abbrev sp13 (F : (Int × Int × Int × Int × Int × Int × (List T49) × (List T68) × (List T68) × (List T55)) → Option (Int)) : PM.Spec := spO [.agg 9, .one] (Row.cons (Ty.int .i64) (Row.cons (Ty.int .i64) (Row.cons (Ty.int .i64) (Row.cons (Ty.int .i64) (Row.cons (Ty.int .i64) (Row.cons (Ty.int .i64) (Row.cons (Ty.sl R49) (Row.cons (Ty.sl R68) (Row.cons (Ty.sl R68) (Row.cons (Ty.sl R55) (Row.nil))))))))))) (.one) (Row.cons (Ty.int .i64) (Row.nil)) F
def h13 : Nat → Option Hint
  | 0 => some { tm := [(5, Ty.int .i64, none), (15, Ty.int .i64, none)], bx := [] }
  | 2 => some { tm := [(5, Ty.int .i64, none), (21, Ty.int .i64, none)], bx := [] }
  | _ => none
noncomputable def fd13 : Body := { code := Try.f13.body.getD .skip, ntmps := Try.f13.ntmps, results := Try.f13.results.toList, hints := h13 }
theorem fn13 : FnOK Try.prog 13 fd13 Try.f13 := ⟨by kernel_rfl, by kernel_rfl, by kernel_rfl, by kernel_rfl, by kernel_rfl⟩
noncomputable def fds13 : List (Nat × Body) := []
noncomputable def cx13 (N : Nat) : Ctx := { ti := tis, spec := PM.look [], n := N }
noncomputable def f13.t (N : Nat) (x : Int × Int × Int × Int × Int × Int × (List T49) × (List T68) × (List T68) × (List T55)) : Option (Int) :=
  loopT N (fun (k2 : (Int × Int) → Option (Int)) (v1 : Int × Int) =>
    bif (decide (v1.2 < (x.2.2.2.2.2.2.1.length : Int))) then
      bif (decide (0 ≤ v1.2) && decide (v1.2 < (x.2.2.2.2.2.2.1.length : Int))) then
      lt (rd R49 x.2.2.2.2.2.2.1 v1.2) fun e3 =>
      loopT N (fun (k5 : (Int × Int) → Option (Int)) (v4 : Int × Int) =>
        bif (decide (v4.2 < (x.2.2.2.2.2.2.2.2.2.length : Int))) then
          bif (decide (0 ≤ v4.2) && decide (v4.2 < (x.2.2.2.2.2.2.2.2.2.length : Int))) then
          lt (rd R55 x.2.2.2.2.2.2.2.2.2 v4.2) fun e6 =>
          bif ((e3.2.2.1 && (!(Op.bytesLess e3.1.toList e6.1.toList))) && (Op.bytesLess e3.1.toList e6.2.toList)) then
            k5 ((if (IntKind.wrap .i64 ((if (-9223372036854775807 : Int) > e3.2.2.2.2.2.2.2.2.1 then (-9223372036854775807 : Int) else e3.2.2.2.2.2.2.2.2.1) - (1 : Int))) < v4.1 then (IntKind.wrap .i64 ((if (-9223372036854775807 : Int) > e3.2.2.2.2.2.2.2.2.1 then (-9223372036854775807 : Int) else e3.2.2.2.2.2.2.2.2.1) - (1 : Int))) else v4.1), (IntKind.wrap .i64 (v4.2 + (1 : Int))))
          else
            k5 (v4.1, (IntKind.wrap .i64 (v4.2 + (1 : Int))))
          else none
        else
          k2 (v4.1, (IntKind.wrap .i64 (v1.2 + (1 : Int))))) ((v1.1, (0 : Int)) : Int × Int)
      else none
    else
      some v1.1) ((x.2.2.2.2.1, (0 : Int)) : Int × Int)
theorem f13.run (N : Nat) (x : Int × Int × Int × Int × Int × Int × (List T49) × (List T68) × (List T68) × (List T55)) : PM.runT (rb := Row.cons (Ty.int .i64) (Row.nil)) (cx13 N) (PM.calls (cx13 N) (lookF fds13) 4) fd13 [.agg 9, .one] (.one) (expl (Row.cons (Ty.int .i64) (Row.cons (Ty.int .i64) (Row.cons (Ty.int .i64) (Row.cons (Ty.int .i64) (Row.cons (Ty.int .i64) (Row.cons (Ty.int .i64) (Row.cons (Ty.sl R49) (Row.cons (Ty.sl R68) (Row.cons (Ty.sl R68) (Row.cons (Ty.sl R55) (Row.nil))))))))))) x) = f13.t N x := by kernel_rfl
noncomputable def f13.n (x : Int × Int × Int × Int × Int × Int × (List T49) × (List T68) × (List T68) × (List T55)) : Option (Int) :=
  if small x.2.2.2.2.2.2.1 then
  bindE (foldE (fun (a1 : T49) (s1 : Int) =>
      if small x.2.2.2.2.2.2.2.2.2 then
      bindE (foldE (fun (a4 : T55) (s4 : Int) =>
          if ((a1.2.2.1 && (!(Op.bytesLess a1.1.toList a4.1.toList))) && (Op.bytesLess a1.1.toList a4.2.toList)) then
            Res.go (if (IntKind.wrap .i64 ((if (-9223372036854775807 : Int) > a1.2.2.2.2.2.2.2.2.1 then (-9223372036854775807 : Int) else a1.2.2.2.2.2.2.2.2.1) - (1 : Int))) < s4 then (IntKind.wrap .i64 ((if (-9223372036854775807 : Int) > a1.2.2.2.2.2.2.2.2.1 then (-9223372036854775807 : Int) else a1.2.2.2.2.2.2.2.2.1) - (1 : Int))) else s4)
          else
            Res.go s4) x.2.2.2.2.2.2.2.2.2 s1) fun s4 =>
      Res.go s4
      else bot) x.2.2.2.2.2.2.1 x.2.2.2.2.1) fun s1 =>
  some s1
  else bot
theorem f13.ref (x : Int × Int × Int × Int × Int × Int × (List T49) × (List T68) × (List T68) × (List T55)) : RefI id (f13.n x) (f13.t BIG x) := (RefI.for rfl (fun (i_ : Int) (s1 : Int) => ((s1, i_) : Int × Int)) (fun hs1 R1 i1 hi1 s1 => RefI.tt (lt_ok hi1) (RefI.tt (idx_ok hi1) (RefI.ltd (rd_ok hi1) (RefI.for rfl (fun (i_ : Int) (s4 : Int) => ((s4, i_) : Int × Int)) (fun hs4 R4 i4 hi4 s4 => RefI.tt (lt_ok hi4) (RefI.tt (idx_ok hi4) (RefI.ltd (rd_ok hi4) (RefI.ite (RefI.next (mk := fun (i_ : Int) (s4 : Int) => ((s4, i_) : Int × Int)) (next_ok hi4 hs4)) (RefI.next (mk := fun (i_ : Int) (s4 : Int) => ((s4, i_) : Int × Int)) (next_ok hi4 hs4)))))) (fun R4 s4 => RefI.ff lt_no (RefI.next (mk := fun (i_ : Int) (s1 : Int) => ((s1, i_) : Int × Int)) (next_ok hi1 hs1))))))) (fun R1 s1 => RefI.ff lt_no RefI.some))
theorem f13.spec : SpecOK Try.prog 13 (sp13 f13.n) := specOK_o mx fn13 (cx := cx13 BIG) (fds := lookF fds13) (d := 4) tab specsOK_nil fdsOK_nil (fun x y h => (f13.run BIG x).trans (f13.ref x y h))
/-! f14 antipode/antipoderef25.Safe -/
noncomputable abbrev sp14 (F : (Int × Int × Int × Int × Int × Int × (List T49) × (List T68) × (List T68) × (List T55)) → Option (Int)) : PM.Spec := spO [.agg 9, .one] (Row.cons (Ty.int .i64) (Row.cons (Ty.int .i64) (Row.cons (Ty.int .i64) (Row.cons (Ty.int .i64) (Row.cons (Ty.int .i64) (Row.cons (Ty.int .i64) (Row.cons (Ty.sl R49) (Row.cons (Ty.sl R68) (Row.cons (Ty.sl R68) (Row.cons (Ty.sl R55) (Row.nil))))))))))) (.one) (Row.cons (Ty.int .i64) (Row.nil)) F
def h14 : Nat → Option Hint
  | 0 => some { tm := [(5, Ty.int .i64, none), (6, Ty.int .i64, none)], bx := [] }
  | 2 => some { tm := [(5, Ty.int .i64, none), (7, Ty.int .i64, none)], bx := [] }
  | _ => none
noncomputable def fd14 : Body := { code := Try.f14.body.getD .skip, ntmps := Try.f14.ntmps, results := Try.f14.results.toList, hints := h14 }
theorem fn14 : FnOK Try.prog 14 fd14 Try.f14 := ⟨by kernel_rfl, by kernel_rfl, by kernel_rfl, by kernel_rfl, by kernel_rfl⟩
noncomputable def fds14 : List (Nat × Body) := []
noncomputable def cx14 (F16 : (Int × Int) → (Int)) (F23 : (ByteArray × ByteArray × ByteArray) → (Bool)) (N : Nat) : Ctx := { ti := tis, spec := PM.look [(16, sp16 F16), (23, sp23 F23)], n := N }
noncomputable def f14.t (F16 : (Int × Int) → (Int)) (F23 : (ByteArray × ByteArray × ByteArray) → (Bool)) (N : Nat) (x : Int × Int × Int × Int × Int × Int × (List T49) × (List T68) × (List T68) × (List T55)) : Option (Int) :=
  loopT N (fun (k2 : (Int × Int) → Option (Int)) (v1 : Int × Int) =>
    bif (decide (v1.2 < (x.2.2.2.2.2.2.1.length : Int))) then
      loopT N (fun (k4 : (Int × Int) → Option (Int)) (v3 : Int × Int) =>
        bif (decide (v3.2 < (x.2.2.2.2.2.2.2.2.2.length : Int))) then
          bif (decide (0 ≤ v1.2) && decide (v1.2 < (x.2.2.2.2.2.2.1.length : Int))) then
          lt (rd R49 x.2.2.2.2.2.2.1 v1.2) fun e5 =>
          bif (!e5.2.2.1 || (decide (0 ≤ v3.2) && decide (v3.2 < (x.2.2.2.2.2.2.2.2.2.length : Int)))) then
          lt (rd R55 x.2.2.2.2.2.2.2.2.2 v3.2) fun e6 =>
          bif (!e5.2.2.1 || true) then
          lt ((F23 (e5.1, e6))) fun y7 =>
          bif ((e5.2.2.1 && y7) && (decide (e5.2.2.2.2.2.2.2.2.1 ≤ v3.1))) then
            lt ((F16 (e5.2.2.2.2.2.2.2.2.1, (1 : Int)))) fun y8 =>
            k4 (y8, (IntKind.wrap .i64 (v3.2 + (1 : Int))))
          else
            k4 (v3.1, (IntKind.wrap .i64 (v3.2 + (1 : Int))))
          else none
          else none
          else none
        else
          k2 (v3.1, (IntKind.wrap .i64 (v1.2 + (1 : Int))))) ((v1.1, (0 : Int)) : Int × Int)
    else
      some v1.1) ((x.2.2.2.2.1, (0 : Int)) : Int × Int)
theorem f14.run (F16 : (Int × Int) → (Int)) (F23 : (ByteArray × ByteArray × ByteArray) → (Bool)) (N : Nat) (x : Int × Int × Int × Int × Int × Int × (List T49) × (List T68) × (List T68) × (List T55)) : PM.runT (rb := Row.cons (Ty.int .i64) (Row.nil)) (cx14 F16 F23 N) (PM.calls (cx14 F16 F23 N) (lookF fds14) 4) fd14 [.agg 9, .one] (.one) (expl (Row.cons (Ty.int .i64) (Row.cons (Ty.int .i64) (Row.cons (Ty.int .i64) (Row.cons (Ty.int .i64) (Row.cons (Ty.int .i64) (Row.cons (Ty.int .i64) (Row.cons (Ty.sl R49) (Row.cons (Ty.sl R68) (Row.cons (Ty.sl R68) (Row.cons (Ty.sl R55) (Row.nil))))))))))) x) = f14.t F16 F23 N x := by kernel_rfl
noncomputable def f14.n (x : Int × Int × Int × Int × Int × Int × (List T49) × (List T68) × (List T68) × (List T55)) : Option (Int) :=
  if small x.2.2.2.2.2.2.1 then
  bindE (foldE (fun (a1 : T49) (s1 : Int) =>
      if small x.2.2.2.2.2.2.2.2.2 then
      bindE (foldE (fun (a3 : T55) (s3 : Int) =>
          lt ((f23.p (a1.1, a3))) fun y7 =>
          if ((a1.2.2.1 && y7) && (decide (a1.2.2.2.2.2.2.2.2.1 ≤ s3))) then
            lt ((f16.p (a1.2.2.2.2.2.2.2.2.1, (1 : Int)))) fun y8 =>
            Res.go y8
          else
            Res.go s3) x.2.2.2.2.2.2.2.2.2 s1) fun s3 =>
      Res.go s3
      else bot) x.2.2.2.2.2.2.1 x.2.2.2.2.1) fun s1 =>
  some s1
  else bot
theorem f14.ref (x : Int × Int × Int × Int × Int × Int × (List T49) × (List T68) × (List T68) × (List T55)) : RefI id (f14.n x) (f14.t f16.p f23.p BIG x) := (RefI.for rfl (fun (i_ : Int) (s1 : Int) => ((s1, i_) : Int × Int)) (fun hs1 R1 i1 hi1 s1 => RefI.tt (lt_ok hi1) (RefI.for rfl (fun (i_ : Int) (s3 : Int) => ((s3, i_) : Int × Int)) (fun hs3 R3 i3 hi3 s3 => RefI.tt (lt_ok hi3) (RefI.tt (idx_ok hi1) (RefI.ltd (rd_ok hi1) (RefI.tt (or_ok (idx_ok hi3)) (RefI.ltd (rd_ok hi3) (RefI.tt (Bool.or_true _) (RefI.lt fun y7 => (RefI.ite (RefI.lt fun y8 => (RefI.next (mk := fun (i_ : Int) (s3 : Int) => ((s3, i_) : Int × Int)) (next_ok hi3 hs3))) (RefI.next (mk := fun (i_ : Int) (s3 : Int) => ((s3, i_) : Int × Int)) (next_ok hi3 hs3)))))))))) (fun R3 s3 => RefI.ff lt_no (RefI.next (mk := fun (i_ : Int) (s1 : Int) => ((s1, i_) : Int × Int)) (next_ok hi1 hs1))))) (fun R1 s1 => RefI.ff lt_no RefI.some))
theorem f14.spec : SpecOK Try.prog 14 (sp14 f14.n) := specOK_o mx fn14 (cx := cx14 f16.p f23.p BIG) (fds := lookF fds14) (d := 4) tab (specsOK_cons f16.spec (specsOK_cons f23.spec specsOK_nil)) fdsOK_nil (fun x y h => (f14.run f16.p f23.p BIG x).trans (f14.ref x y h))
/-! f6 antipode/antipodelaw25.begun -/
noncomputable abbrev sp6 (F : (Unit) → Option (Bool)) : PM.Spec := spO [] (Row.nil) (.one) (Row.cons (Ty.bool) (Row.nil)) F
noncomputable def fd6 : Body := { code := Try.f6.body.getD .skip, ntmps := Try.f6.ntmps, results := Try.f6.results.toList, hints := fun _ => none }
theorem fn6 : FnOK Try.prog 6 fd6 Try.f6 := ⟨by kernel_rfl, by kernel_rfl, by kernel_rfl, by kernel_rfl, by kernel_rfl⟩
noncomputable def fds6 : List (Nat × Body) := []
noncomputable def cx6 (o7 : (Int × Int × Int × (List T2) × (List T2)) → Option (Int × Int)) (o11 : (Int × Int × Int × Int × Int × Int × (List T49) × (List T68) × (List T68) × Int × Int × (List T55)) → Option ((List T41) × Int)) (o13 : (Int × Int × Int × Int × Int × Int × (List T49) × (List T68) × (List T68) × (List T55)) → Option (Int)) (N : Nat) : Ctx := { ti := tis, spec := PM.look [(7, sp7 o7), (11, sp11 o11), (13, sp13 o13)], n := N }
noncomputable def f6.t (o7 : (Int × Int × Int × (List T2) × (List T2)) → Option (Int × Int)) (o11 : (Int × Int × Int × Int × Int × Int × (List T49) × (List T68) × (List T68) × Int × Int × (List T55)) → Option ((List T41) × Int)) (o13 : (Int × Int × Int × Int × Int × Int × (List T49) × (List T68) × (List T68) × (List T55)) → Option (Int)) (N : Nat) (x : Unit) : Option (Bool) :=
  bif (ok (o7 ((2 : Int), (10 : Int), (100 : Int), [(95 : Int), (97 : Int)], [(0 : Int), (0 : Int)]))) then
  lt ((vl (o7 ((2 : Int), (10 : Int), (100 : Int), [(95 : Int), (97 : Int)], [(0 : Int), (0 : Int)])))) fun y1 =>
  bif (ok (o7 ((2 : Int), (2 : Int), (100 : Int), [(95 : Int)], []))) then
  lt ((vl (o7 ((2 : Int), (2 : Int), (100 : Int), [(95 : Int)], [])))) fun y2 =>
  bif (ok (o11 ((0 : Int), (0 : Int), (0 : Int), (0 : Int), (5 : Int), (0 : Int), [], [], [], (6 : Int), (0 : Int), []))) then
  lt ((vl (o11 ((0 : Int), (0 : Int), (0 : Int), (0 : Int), (5 : Int), (0 : Int), [], [], [], (6 : Int), (0 : Int), [])))) fun y3 =>
  bif (!((((y1.1 == (95 : Int)) && (y1.2 == (0 : Int))) && (y2.2 == (23 : Int))) && (y3.2 == (23 : Int))) || (ok (o13 ((0 : Int), (0 : Int), (0 : Int), (0 : Int), (7 : Int), (0 : Int), [], [], [], [])))) then
  lt ((vl (o13 ((0 : Int), (0 : Int), (0 : Int), (0 : Int), (7 : Int), (0 : Int), [], [], [], [])))) fun y4 =>
  some (((((y1.1 == (95 : Int)) && (y1.2 == (0 : Int))) && (y2.2 == (23 : Int))) && (y3.2 == (23 : Int))) && (y4 == (7 : Int)))
  else none
  else none
  else none
  else none
theorem f6.run (o7 : (Int × Int × Int × (List T2) × (List T2)) → Option (Int × Int)) (o11 : (Int × Int × Int × Int × Int × Int × (List T49) × (List T68) × (List T68) × Int × Int × (List T55)) → Option ((List T41) × Int)) (o13 : (Int × Int × Int × Int × Int × Int × (List T49) × (List T68) × (List T68) × (List T55)) → Option (Int)) (N : Nat) (x : Unit) : PM.runT (rb := Row.cons (Ty.bool) (Row.nil)) (cx6 o7 o11 o13 N) (PM.calls (cx6 o7 o11 o13 N) (lookF fds6) 4) fd6 [] (.one) (expl (Row.nil) x) = f6.t o7 o11 o13 N x := by kernel_rfl
noncomputable def f6.n (x : Unit) : Option (Bool) :=
  bindO (f7.n ((2 : Int), (10 : Int), (100 : Int), [(95 : Int), (97 : Int)], [(0 : Int), (0 : Int)])) fun y1 =>
  bindO (f7.n ((2 : Int), (2 : Int), (100 : Int), [(95 : Int)], [])) fun y2 =>
  bindO (f11.n ((0 : Int), (0 : Int), (0 : Int), (0 : Int), (5 : Int), (0 : Int), [], [], [], (6 : Int), (0 : Int), [])) fun y3 =>
  if (!((((y1.1 == (95 : Int)) && (y1.2 == (0 : Int))) && (y2.2 == (23 : Int))) && (y3.2 == (23 : Int))) || (ok (f13.n ((0 : Int), (0 : Int), (0 : Int), (0 : Int), (7 : Int), (0 : Int), [], [], [], [])))) then
  lt ((vl (f13.n ((0 : Int), (0 : Int), (0 : Int), (0 : Int), (7 : Int), (0 : Int), [], [], [], [])))) fun y4 =>
  some (((((y1.1 == (95 : Int)) && (y1.2 == (0 : Int))) && (y2.2 == (23 : Int))) && (y3.2 == (23 : Int))) && (y4 == (7 : Int)))
  else bot
theorem f6.ref (x : Unit) : RefI id (f6.n x) (f6.t f7.n f11.n f13.n BIG x) := (RefI.bindO rfl fun y1 => (RefI.bindO rfl fun y2 => (RefI.bindO rfl fun y3 => (RefI.chk rfl (RefI.lt fun y4 => RefI.some)))))
theorem f6.spec : SpecOK Try.prog 6 (sp6 f6.n) := specOK_o mx fn6 (cx := cx6 f7.n f11.n f13.n BIG) (fds := lookF fds6) (d := 4) tab (specsOK_cons f7.spec (specsOK_cons f11.spec (specsOK_cons f13.spec specsOK_nil))) fdsOK_nil (fun x y h => (f6.run f7.n f11.n f13.n BIG x).trans (f6.ref x y h))
/-! f3 antipode/antipodelaw25.StalePicks -/
noncomputable abbrev sp3 (F : (Int × Int × Int × (List T2) × (List T2)) → Option (Bool)) : PM.Spec := spO [.one, .one, .one, .one, .one] (Row.cons (Ty.int .i64) (Row.cons (Ty.int .i64) (Row.cons (Ty.int .i64) (Row.cons (Ty.sl R2) (Row.cons (Ty.sl R2) (Row.nil)))))) (.one) (Row.cons (Ty.bool) (Row.nil)) F
noncomputable def fd3 : Body := { code := Try.f3.body.getD .skip, ntmps := Try.f3.ntmps, results := Try.f3.results.toList, hints := fun _ => none }
theorem fn3 : FnOK Try.prog 3 fd3 Try.f3 := ⟨by kernel_rfl, by kernel_rfl, by kernel_rfl, by kernel_rfl, by kernel_rfl⟩
noncomputable def fds3 : List (Nat × Body) := []
noncomputable def cx3 (o6 : (Unit) → Option (Bool)) (o7 : (Int × Int × Int × (List T2) × (List T2)) → Option (Int × Int)) (o8 : (Int × Int × Int × (List T2) × (List T2)) → Option (Int × Int)) (N : Nat) : Ctx := { ti := tis, spec := PM.look [(6, sp6 o6), (7, sp7 o7), (8, sp8 o8)], n := N }
noncomputable def f3.t (o6 : (Unit) → Option (Bool)) (o7 : (Int × Int × Int × (List T2) × (List T2)) → Option (Int × Int)) (o8 : (Int × Int × Int × (List T2) × (List T2)) → Option (Int × Int)) (N : Nat) (x : Int × Int × Int × (List T2) × (List T2)) : Option (Bool) :=
  bif (ok (o6 ())) then
  lt ((vl (o6 ()))) fun y1 =>
  bif (!y1) then
    some false
  else
    bif ((decide ((x.2.2.2.1.length : Int) > (20 : Int))) || (decide ((x.2.2.2.2.length : Int) > (20 : Int)))) then
      some true
    else
      bif (ok (o7 x)) then
      lt ((vl (o7 x))) fun y2 =>
      bif (ok (o8 x)) then
      lt ((vl (o8 x))) fun y3 =>
      some ((y2.1 == y3.1) && (y2.2 == y3.2))
      else none
      else none
  else none
theorem f3.run (o6 : (Unit) → Option (Bool)) (o7 : (Int × Int × Int × (List T2) × (List T2)) → Option (Int × Int)) (o8 : (Int × Int × Int × (List T2) × (List T2)) → Option (Int × Int)) (N : Nat) (x : Int × Int × Int × (List T2) × (List T2)) : PM.runT (rb := Row.cons (Ty.bool) (Row.nil)) (cx3 o6 o7 o8 N) (PM.calls (cx3 o6 o7 o8 N) (lookF fds3) 4) fd3 [.one, .one, .one, .one, .one] (.one) (expl (Row.cons (Ty.int .i64) (Row.cons (Ty.int .i64) (Row.cons (Ty.int .i64) (Row.cons (Ty.sl R2) (Row.cons (Ty.sl R2) (Row.nil)))))) x) = f3.t o6 o7 o8 N x := by kernel_rfl
noncomputable def f3.n (x : Int × Int × Int × (List T2) × (List T2)) : Option (Bool) :=
  bindO (f6.n ()) fun y1 =>
  if (!y1) then
    some false
  else
    if ((decide ((x.2.2.2.1.length : Int) > (20 : Int))) || (decide ((x.2.2.2.2.length : Int) > (20 : Int)))) then
      some true
    else
      bindO (f7.n x) fun y2 =>
      bindO (f8.n x) fun y3 =>
      some ((y2.1 == y3.1) && (y2.2 == y3.2))
theorem f3.ref (x : Int × Int × Int × (List T2) × (List T2)) : RefI id (f3.n x) (f3.t f6.n f7.n f8.n BIG x) := (RefI.bindO rfl fun y1 => (RefI.ite RefI.some (RefI.ite RefI.some (RefI.bindO rfl fun y2 => (RefI.bindO rfl fun y3 => RefI.some)))))
theorem f3.spec : SpecOK Try.prog 3 (sp3 f3.n) := specOK_o mx fn3 (cx := cx3 f6.n f7.n f8.n BIG) (fds := lookF fds3) (d := 4) tab (specsOK_cons f6.spec (specsOK_cons f7.spec (specsOK_cons f8.spec specsOK_nil))) fdsOK_nil (fun x y h => (f3.run f6.n f7.n f8.n BIG x).trans (f3.ref x y h))
/-! f4 antipode/antipodelaw25.StaleLocal -/
noncomputable abbrev sp4 (F : (Int × Int × Int × Int × Int × Int × (List T49) × (List T68) × (List T68) × Int × Int × (List T55)) → Option (Bool)) : PM.Spec := spO [.agg 9, .agg 2, .one] (Row.cons (Ty.int .i64) (Row.cons (Ty.int .i64) (Row.cons (Ty.int .i64) (Row.cons (Ty.int .i64) (Row.cons (Ty.int .i64) (Row.cons (Ty.int .i64) (Row.cons (Ty.sl R49) (Row.cons (Ty.sl R68) (Row.cons (Ty.sl R68) (Row.cons (Ty.int .i64) (Row.cons (Ty.int .i64) (Row.cons (Ty.sl R55) (Row.nil))))))))))))) (.one) (Row.cons (Ty.bool) (Row.nil)) F
def h4 : Nat → Option Hint
  | 0 => some { tm := [(11, Ty.int .i64, none)], bx := [] }
  | _ => none
noncomputable def fd4 : Body := { code := Try.f4.body.getD .skip, ntmps := Try.f4.ntmps, results := Try.f4.results.toList, hints := h4 }
theorem fn4 : FnOK Try.prog 4 fd4 Try.f4 := ⟨by kernel_rfl, by kernel_rfl, by kernel_rfl, by kernel_rfl, by kernel_rfl⟩
noncomputable def fds4 : List (Nat × Body) := []
noncomputable def cx4 (o6 : (Unit) → Option (Bool)) (o9 : (Int × Int × Int × Int × Int × Int × (List T49) × (List T68) × (List T68)) → Option (Bool)) (o10 : (Int × Int × Int × Int × Int × Int × (List T49) × (List T68) × (List T68)) → Option (Bool)) (o11 : (Int × Int × Int × Int × Int × Int × (List T49) × (List T68) × (List T68) × Int × Int × (List T55)) → Option ((List T41) × Int)) (o12 : (Int × Int × Int × Int × Int × Int × (List T49) × (List T68) × (List T68) × Int × Int × (List T55)) → Option ((List T41) × Int)) (o13 : (Int × Int × Int × Int × Int × Int × (List T49) × (List T68) × (List T68) × (List T55)) → Option (Int)) (o14 : (Int × Int × Int × Int × Int × Int × (List T49) × (List T68) × (List T68) × (List T55)) → Option (Int)) (N : Nat) : Ctx := { ti := tis, spec := PM.look [(6, sp6 o6), (9, sp9 o9), (10, sp10 o10), (11, sp11 o11), (12, sp12 o12), (13, sp13 o13), (14, sp14 o14)], n := N }
noncomputable def f4.t (o6 : (Unit) → Option (Bool)) (o9 : (Int × Int × Int × Int × Int × Int × (List T49) × (List T68) × (List T68)) → Option (Bool)) (o10 : (Int × Int × Int × Int × Int × Int × (List T49) × (List T68) × (List T68)) → Option (Bool)) (o11 : (Int × Int × Int × Int × Int × Int × (List T49) × (List T68) × (List T68) × Int × Int × (List T55)) → Option ((List T41) × Int)) (o12 : (Int × Int × Int × Int × Int × Int × (List T49) × (List T68) × (List T68) × Int × Int × (List T55)) → Option ((List T41) × Int)) (o13 : (Int × Int × Int × Int × Int × Int × (List T49) × (List T68) × (List T68) × (List T55)) → Option (Int)) (o14 : (Int × Int × Int × Int × Int × Int × (List T49) × (List T68) × (List T68) × (List T55)) → Option (Int)) (N : Nat) (x : Int × Int × Int × Int × Int × Int × (List T49) × (List T68) × (List T68) × Int × Int × (List T55)) : Option (Bool) :=
  bif (ok (o6 ())) then
  lt ((vl (o6 ()))) fun y1 =>
  bif (!y1) then
    some false
  else
    bif (ok (o9 (x.1, x.2.1, x.2.2.1, x.2.2.2.1, x.2.2.2.2.1, x.2.2.2.2.2.1, x.2.2.2.2.2.2.1, x.2.2.2.2.2.2.2.1, x.2.2.2.2.2.2.2.2.1))) then
    lt ((vl (o9 (x.1, x.2.1, x.2.2.1, x.2.2.2.1, x.2.2.2.2.1, x.2.2.2.2.2.1, x.2.2.2.2.2.2.1, x.2.2.2.2.2.2.2.1, x.2.2.2.2.2.2.2.2.1)))) fun y2 =>
    bif (!(!((!y2) || (decide ((x.2.2.2.2.2.2.2.2.2.2.2.length : Int) > (20 : Int))))) || (ok (o10 (x.1, x.2.1, x.2.2.1, x.2.2.2.1, x.2.2.2.2.1, x.2.2.2.2.2.1, x.2.2.2.2.2.2.1, x.2.2.2.2.2.2.2.1, x.2.2.2.2.2.2.2.2.1)))) then
    lt ((vl (o10 (x.1, x.2.1, x.2.2.1, x.2.2.2.1, x.2.2.2.2.1, x.2.2.2.2.2.1, x.2.2.2.2.2.2.1, x.2.2.2.2.2.2.2.1, x.2.2.2.2.2.2.2.2.1)))) fun y3 =>
    bif (((!y2) || (decide ((x.2.2.2.2.2.2.2.2.2.2.2.length : Int) > (20 : Int)))) || (!y3)) then
      some true
    else
      bif (ok (o11 x)) then
      lt ((vl (o11 x))) fun y4 =>
      bif (ok (o12 x)) then
      lt ((vl (o12 x))) fun y5 =>
      bif (!(!((y4.2 != y5.2) || ((y4.1.length : Int) != (y5.1.length : Int)))) || (ok (o13 (x.1, x.2.1, x.2.2.1, x.2.2.2.1, x.2.2.2.2.1, x.2.2.2.2.2.1, x.2.2.2.2.2.2.1, x.2.2.2.2.2.2.2.1, x.2.2.2.2.2.2.2.2.1, x.2.2.2.2.2.2.2.2.2.2.2)))) then
      lt ((vl (o13 (x.1, x.2.1, x.2.2.1, x.2.2.2.1, x.2.2.2.2.1, x.2.2.2.2.2.1, x.2.2.2.2.2.2.1, x.2.2.2.2.2.2.2.1, x.2.2.2.2.2.2.2.2.1, x.2.2.2.2.2.2.2.2.2.2.2)))) fun y6 =>
      bif (!(!((y4.2 != y5.2) || ((y4.1.length : Int) != (y5.1.length : Int)))) || (ok (o14 (x.1, x.2.1, x.2.2.1, x.2.2.2.1, x.2.2.2.2.1, x.2.2.2.2.2.1, x.2.2.2.2.2.2.1, x.2.2.2.2.2.2.2.1, x.2.2.2.2.2.2.2.2.1, x.2.2.2.2.2.2.2.2.2.2.2)))) then
      lt ((vl (o14 (x.1, x.2.1, x.2.2.1, x.2.2.2.1, x.2.2.2.2.1, x.2.2.2.2.2.1, x.2.2.2.2.2.2.1, x.2.2.2.2.2.2.2.1, x.2.2.2.2.2.2.2.2.1, x.2.2.2.2.2.2.2.2.2.2.2)))) fun y7 =>
      bif (((y4.2 != y5.2) || ((y4.1.length : Int) != (y5.1.length : Int))) || (y6 != y7)) then
        some false
      else
        loopT N (fun (k9 : (Int) → Option (Bool)) (v8 : Int) =>
          bif (decide (v8 < (y5.1.length : Int))) then
            bif (decide (0 ≤ v8) && decide (v8 < (y4.1.length : Int))) then
            lt (rd R41 y4.1 v8) fun e10 =>
            bif (decide (0 ≤ v8) && decide (v8 < (y5.1.length : Int))) then
            lt (rd R41 y5.1 v8) fun e11 =>
            bif (!((e10.1.toList == e11.1.toList) && (e10.2.toList == e11.2.toList))) then
              some false
            else
              k9 (IntKind.wrap .i64 (v8 + (1 : Int)))
            else none
            else none
          else
            some true) ((0 : Int) : Int)
      else none
      else none
      else none
      else none
    else none
    else none
  else none
theorem f4.run (o6 : (Unit) → Option (Bool)) (o9 : (Int × Int × Int × Int × Int × Int × (List T49) × (List T68) × (List T68)) → Option (Bool)) (o10 : (Int × Int × Int × Int × Int × Int × (List T49) × (List T68) × (List T68)) → Option (Bool)) (o11 : (Int × Int × Int × Int × Int × Int × (List T49) × (List T68) × (List T68) × Int × Int × (List T55)) → Option ((List T41) × Int)) (o12 : (Int × Int × Int × Int × Int × Int × (List T49) × (List T68) × (List T68) × Int × Int × (List T55)) → Option ((List T41) × Int)) (o13 : (Int × Int × Int × Int × Int × Int × (List T49) × (List T68) × (List T68) × (List T55)) → Option (Int)) (o14 : (Int × Int × Int × Int × Int × Int × (List T49) × (List T68) × (List T68) × (List T55)) → Option (Int)) (N : Nat) (x : Int × Int × Int × Int × Int × Int × (List T49) × (List T68) × (List T68) × Int × Int × (List T55)) : PM.runT (rb := Row.cons (Ty.bool) (Row.nil)) (cx4 o6 o9 o10 o11 o12 o13 o14 N) (PM.calls (cx4 o6 o9 o10 o11 o12 o13 o14 N) (lookF fds4) 4) fd4 [.agg 9, .agg 2, .one] (.one) (expl (Row.cons (Ty.int .i64) (Row.cons (Ty.int .i64) (Row.cons (Ty.int .i64) (Row.cons (Ty.int .i64) (Row.cons (Ty.int .i64) (Row.cons (Ty.int .i64) (Row.cons (Ty.sl R49) (Row.cons (Ty.sl R68) (Row.cons (Ty.sl R68) (Row.cons (Ty.int .i64) (Row.cons (Ty.int .i64) (Row.cons (Ty.sl R55) (Row.nil))))))))))))) x) = f4.t o6 o9 o10 o11 o12 o13 o14 N x := by kernel_rfl
noncomputable def f4.n (x : Int × Int × Int × Int × Int × Int × (List T49) × (List T68) × (List T68) × Int × Int × (List T55)) : Option (Bool) :=
  bindO (f6.n ()) fun y1 =>
  if (!y1) then
    some false
  else
    bindO (f9.n (x.1, x.2.1, x.2.2.1, x.2.2.2.1, x.2.2.2.2.1, x.2.2.2.2.2.1, x.2.2.2.2.2.2.1, x.2.2.2.2.2.2.2.1, x.2.2.2.2.2.2.2.2.1)) fun y2 =>
    if (!(!((!y2) || (decide ((x.2.2.2.2.2.2.2.2.2.2.2.length : Int) > (20 : Int))))) || (ok (f10.n (x.1, x.2.1, x.2.2.1, x.2.2.2.1, x.2.2.2.2.1, x.2.2.2.2.2.1, x.2.2.2.2.2.2.1, x.2.2.2.2.2.2.2.1, x.2.2.2.2.2.2.2.2.1)))) then
    lt ((vl (f10.n (x.1, x.2.1, x.2.2.1, x.2.2.2.1, x.2.2.2.2.1, x.2.2.2.2.2.1, x.2.2.2.2.2.2.1, x.2.2.2.2.2.2.2.1, x.2.2.2.2.2.2.2.2.1)))) fun y3 =>
    if (((!y2) || (decide ((x.2.2.2.2.2.2.2.2.2.2.2.length : Int) > (20 : Int)))) || (!y3)) then
      some true
    else
      bindO (f11.n x) fun y4 =>
      bindO (f12.n x) fun y5 =>
      if (!(!((y4.2 != y5.2) || ((y4.1.length : Int) != (y5.1.length : Int)))) || (ok (f13.n (x.1, x.2.1, x.2.2.1, x.2.2.2.1, x.2.2.2.2.1, x.2.2.2.2.2.1, x.2.2.2.2.2.2.1, x.2.2.2.2.2.2.2.1, x.2.2.2.2.2.2.2.2.1, x.2.2.2.2.2.2.2.2.2.2.2)))) then
      lt ((vl (f13.n (x.1, x.2.1, x.2.2.1, x.2.2.2.1, x.2.2.2.2.1, x.2.2.2.2.2.1, x.2.2.2.2.2.2.1, x.2.2.2.2.2.2.2.1, x.2.2.2.2.2.2.2.2.1, x.2.2.2.2.2.2.2.2.2.2.2)))) fun y6 =>
      if (!(!((y4.2 != y5.2) || ((y4.1.length : Int) != (y5.1.length : Int)))) || (ok (f14.n (x.1, x.2.1, x.2.2.1, x.2.2.2.1, x.2.2.2.2.1, x.2.2.2.2.2.1, x.2.2.2.2.2.2.1, x.2.2.2.2.2.2.2.1, x.2.2.2.2.2.2.2.2.1, x.2.2.2.2.2.2.2.2.2.2.2)))) then
      lt ((vl (f14.n (x.1, x.2.1, x.2.2.1, x.2.2.2.1, x.2.2.2.2.1, x.2.2.2.2.2.1, x.2.2.2.2.2.2.1, x.2.2.2.2.2.2.2.1, x.2.2.2.2.2.2.2.2.1, x.2.2.2.2.2.2.2.2.2.2.2)))) fun y7 =>
      if (((y4.2 != y5.2) || ((y4.1.length : Int) != (y5.1.length : Int))) || (y6 != y7)) then
        some false
      else
        if small y5.1 then
        bindE (foldI (fun (i8 : Nat) (a8 : T41) (s8 : Unit) =>
            if (decide (0 ≤ (i8 : Int)) && decide ((i8 : Int) < (y4.1.length : Int))) then
            lt (rd R41 y4.1 (i8 : Int)) fun e10 =>
            if (!((e10.1.toList == a8.1.toList) && (e10.2.toList == a8.2.toList))) then
              Res.ret (some false)
            else
              Res.go ()
            else bot) 0 y5.1 ()) fun s8 =>
        some true
        else bot
      else bot
      else bot
    else bot
theorem f4.ref (x : Int × Int × Int × Int × Int × Int × (List T49) × (List T68) × (List T68) × Int × Int × (List T55)) : RefI id (f4.n x) (f4.t f6.n f9.n f10.n f11.n f12.n f13.n f14.n BIG x) := (RefI.bindO rfl fun y1 => (RefI.ite RefI.some (RefI.bindO rfl fun y2 => (RefI.chk rfl (RefI.lt fun y3 => (RefI.ite RefI.some (RefI.bindO rfl fun y4 => (RefI.bindO rfl fun y5 => (RefI.chk rfl (RefI.lt fun y6 => (RefI.chk rfl (RefI.lt fun y7 => (RefI.ite RefI.some (RefI.forI rfl (fun (i_ : Int) (s8 : Unit) => (i_ : Int)) (fun hs8 R8 i8 hi8 s8 => RefI.tt (lt_ok hi8) (RefI.chk rfl (RefI.lt fun e10 => (RefI.tt (idx_ok hi8) (RefI.ltd (rd_ok hi8) (RefI.ite (RefI.ret RefI.some) (RefI.next (mk := fun (i_ : Int) (s8 : Unit) => (i_ : Int)) (next_ok hi8 hs8)))))))) (fun R8 s8 => RefI.ff lt_no RefI.some)))))))))))))))
theorem f4.spec : SpecOK Try.prog 4 (sp4 f4.n) := specOK_o mx fn4 (cx := cx4 f6.n f9.n f10.n f11.n f12.n f13.n f14.n BIG) (fds := lookF fds4) (d := 4) tab (specsOK_cons f6.spec (specsOK_cons f9.spec (specsOK_cons f10.spec (specsOK_cons f11.spec (specsOK_cons f12.spec (specsOK_cons f13.spec (specsOK_cons f14.spec specsOK_nil))))))) fdsOK_nil (fun x y h => (f4.run f6.n f9.n f10.n f11.n f12.n f13.n f14.n BIG x).trans (f4.ref x y h))
/-! f5 antipode/antipodelaw25.StaleSafe -/
noncomputable abbrev sp5 (F : (Int × Int × Int × Int × Int × Int × (List T49) × (List T68) × (List T68) × (List T55) × Int) → Option (Bool)) : PM.Spec := spO [.agg 9, .one, .one] (Row.cons (Ty.int .i64) (Row.cons (Ty.int .i64) (Row.cons (Ty.int .i64) (Row.cons (Ty.int .i64) (Row.cons (Ty.int .i64) (Row.cons (Ty.int .i64) (Row.cons (Ty.sl R49) (Row.cons (Ty.sl R68) (Row.cons (Ty.sl R68) (Row.cons (Ty.sl R55) (Row.cons (Ty.int .i64) (Row.nil)))))))))))) (.one) (Row.cons (Ty.bool) (Row.nil)) F
def h5 : Nat → Option Hint
  | 0 => some { tm := [(7, Ty.int .i64, none)], bx := [] }
  | _ => none
noncomputable def fd5 : Body := { code := Try.f5.body.getD .skip, ntmps := Try.f5.ntmps, results := Try.f5.results.toList, hints := h5 }
theorem fn5 : FnOK Try.prog 5 fd5 Try.f5 := ⟨by kernel_rfl, by kernel_rfl, by kernel_rfl, by kernel_rfl, by kernel_rfl⟩
noncomputable def fds5 : List (Nat × Body) := []
noncomputable def cx5 (o6 : (Unit) → Option (Bool)) (o9 : (Int × Int × Int × Int × Int × Int × (List T49) × (List T68) × (List T68)) → Option (Bool)) (o10 : (Int × Int × Int × Int × Int × Int × (List T49) × (List T68) × (List T68)) → Option (Bool)) (o11 : (Int × Int × Int × Int × Int × Int × (List T49) × (List T68) × (List T68) × Int × Int × (List T55)) → Option ((List T41) × Int)) (o13 : (Int × Int × Int × Int × Int × Int × (List T49) × (List T68) × (List T68) × (List T55)) → Option (Int)) (N : Nat) : Ctx := { ti := tis, spec := PM.look [(6, sp6 o6), (9, sp9 o9), (10, sp10 o10), (11, sp11 o11), (13, sp13 o13)], n := N }
noncomputable def f5.t (o6 : (Unit) → Option (Bool)) (o9 : (Int × Int × Int × Int × Int × Int × (List T49) × (List T68) × (List T68)) → Option (Bool)) (o10 : (Int × Int × Int × Int × Int × Int × (List T49) × (List T68) × (List T68)) → Option (Bool)) (o11 : (Int × Int × Int × Int × Int × Int × (List T49) × (List T68) × (List T68) × Int × Int × (List T55)) → Option ((List T41) × Int)) (o13 : (Int × Int × Int × Int × Int × Int × (List T49) × (List T68) × (List T68) × (List T55)) → Option (Int)) (N : Nat) (x : Int × Int × Int × Int × Int × Int × (List T49) × (List T68) × (List T68) × (List T55) × Int) : Option (Bool) :=
  bif (ok (o6 ())) then
  lt ((vl (o6 ()))) fun y1 =>
  bif (!y1) then
    some false
  else
    bif (ok (o9 (x.1, x.2.1, x.2.2.1, x.2.2.2.1, x.2.2.2.2.1, x.2.2.2.2.2.1, x.2.2.2.2.2.2.1, x.2.2.2.2.2.2.2.1, x.2.2.2.2.2.2.2.2.1))) then
    lt ((vl (o9 (x.1, x.2.1, x.2.2.1, x.2.2.2.1, x.2.2.2.2.1, x.2.2.2.2.2.1, x.2.2.2.2.2.2.1, x.2.2.2.2.2.2.2.1, x.2.2.2.2.2.2.2.2.1)))) fun y2 =>
    bif (!(!((!y2) || (decide ((x.2.2.2.2.2.2.2.2.2.1.length : Int) > (20 : Int))))) || (ok (o10 (x.1, x.2.1, x.2.2.1, x.2.2.2.1, x.2.2.2.2.1, x.2.2.2.2.2.1, x.2.2.2.2.2.2.1, x.2.2.2.2.2.2.2.1, x.2.2.2.2.2.2.2.2.1)))) then
    lt ((vl (o10 (x.1, x.2.1, x.2.2.1, x.2.2.2.1, x.2.2.2.2.1, x.2.2.2.2.2.1, x.2.2.2.2.2.2.1, x.2.2.2.2.2.2.2.1, x.2.2.2.2.2.2.2.2.1)))) fun y3 =>
    bif (((!y2) || (decide ((x.2.2.2.2.2.2.2.2.2.1.length : Int) > (20 : Int)))) || (!y3)) then
      some true
    else
      loopT N (fun (k5 : (Int) → Option (Bool)) (v4 : Int) =>
        bif (decide (v4 < (x.2.2.2.2.2.2.1.length : Int))) then
          bif (decide (0 ≤ v4) && decide (v4 < (x.2.2.2.2.2.2.1.length : Int))) then
          lt (rd R49 x.2.2.2.2.2.2.1 v4) fun e6 =>
          bif (!(!(decide (e6.2.2.2.2.2.2.2.2.2.1 > (4611686018427387904 : Int)))) || (decide (0 ≤ v4) && decide (v4 < (x.2.2.2.2.2.2.1.length : Int)))) then
          bif ((decide (e6.2.2.2.2.2.2.2.2.2.1 > (4611686018427387904 : Int))) || (decide (e6.2.2.2.2.2.2.2.2.1 < (-4611686018427387904 : Int)))) then
            some true
          else
            k5 (IntKind.wrap .i64 (v4 + (1 : Int)))
          else none
          else none
        else
          bif (ok (o13 (x.1, x.2.1, x.2.2.1, x.2.2.2.1, x.2.2.2.2.1, x.2.2.2.2.2.1, x.2.2.2.2.2.2.1, x.2.2.2.2.2.2.2.1, x.2.2.2.2.2.2.2.2.1, x.2.2.2.2.2.2.2.2.2.1))) then
          lt ((vl (o13 (x.1, x.2.1, x.2.2.1, x.2.2.2.1, x.2.2.2.2.1, x.2.2.2.2.2.1, x.2.2.2.2.2.2.1, x.2.2.2.2.2.2.2.1, x.2.2.2.2.2.2.2.2.1, x.2.2.2.2.2.2.2.2.2.1)))) fun y7 =>
          bif (ok (o11 (x.1, x.2.1, x.2.2.1, x.2.2.2.1, x.2.2.2.2.1, x.2.2.2.2.2.1, x.2.2.2.2.2.2.1, x.2.2.2.2.2.2.2.1, x.2.2.2.2.2.2.2.2.1, y7, (4611686018427387904 : Int), x.2.2.2.2.2.2.2.2.2.1))) then
          lt ((vl (o11 (x.1, x.2.1, x.2.2.1, x.2.2.2.1, x.2.2.2.2.1, x.2.2.2.2.2.1, x.2.2.2.2.2.2.1, x.2.2.2.2.2.2.2.1, x.2.2.2.2.2.2.2.2.1, y7, (4611686018427387904 : Int), x.2.2.2.2.2.2.2.2.2.1)))) fun y8 =>
          bif (ok (o11 (x.1, x.2.1, x.2.2.1, x.2.2.2.1, x.2.2.2.2.1, x.2.2.2.2.2.1, x.2.2.2.2.2.2.1, x.2.2.2.2.2.2.2.1, x.2.2.2.2.2.2.2.2.1, x.2.2.2.2.2.2.2.2.2.2, (4611686018427387904 : Int), x.2.2.2.2.2.2.2.2.2.1))) then
          lt ((vl (o11 (x.1, x.2.1, x.2.2.1, x.2.2.2.1, x.2.2.2.2.1, x.2.2.2.2.2.1, x.2.2.2.2.2.2.1, x.2.2.2.2.2.2.2.1, x.2.2.2.2.2.2.2.2.1, x.2.2.2.2.2.2.2.2.2.2, (4611686018427387904 : Int), x.2.2.2.2.2.2.2.2.2.1)))) fun y9 =>
          bif ((y8.2 == (3 : Int)) || (y9.2 == (3 : Int))) then
            some true
          else
            bif (decide (x.2.2.2.2.2.2.2.2.2.2 < x.2.2.2.2.2.1)) then
              some (y9.2 == (24 : Int))
            else
              some (((y8.2 == (0 : Int)) || ((y8.2 == (24 : Int)) && (decide (y7 < x.2.2.2.2.2.1)))) && ((y9.2 == (0 : Int)) == (decide (x.2.2.2.2.2.2.2.2.2.2 ≤ y7))))
          else none
          else none
          else none) ((0 : Int) : Int)
    else none
    else none
  else none
theorem f5.run (o6 : (Unit) → Option (Bool)) (o9 : (Int × Int × Int × Int × Int × Int × (List T49) × (List T68) × (List T68)) → Option (Bool)) (o10 : (Int × Int × Int × Int × Int × Int × (List T49) × (List T68) × (List T68)) → Option (Bool)) (o11 : (Int × Int × Int × Int × Int × Int × (List T49) × (List T68) × (List T68) × Int × Int × (List T55)) → Option ((List T41) × Int)) (o13 : (Int × Int × Int × Int × Int × Int × (List T49) × (List T68) × (List T68) × (List T55)) → Option (Int)) (N : Nat) (x : Int × Int × Int × Int × Int × Int × (List T49) × (List T68) × (List T68) × (List T55) × Int) : PM.runT (rb := Row.cons (Ty.bool) (Row.nil)) (cx5 o6 o9 o10 o11 o13 N) (PM.calls (cx5 o6 o9 o10 o11 o13 N) (lookF fds5) 4) fd5 [.agg 9, .one, .one] (.one) (expl (Row.cons (Ty.int .i64) (Row.cons (Ty.int .i64) (Row.cons (Ty.int .i64) (Row.cons (Ty.int .i64) (Row.cons (Ty.int .i64) (Row.cons (Ty.int .i64) (Row.cons (Ty.sl R49) (Row.cons (Ty.sl R68) (Row.cons (Ty.sl R68) (Row.cons (Ty.sl R55) (Row.cons (Ty.int .i64) (Row.nil)))))))))))) x) = f5.t o6 o9 o10 o11 o13 N x := by kernel_rfl
noncomputable def f5.n (x : Int × Int × Int × Int × Int × Int × (List T49) × (List T68) × (List T68) × (List T55) × Int) : Option (Bool) :=
  bindO (f6.n ()) fun y1 =>
  if (!y1) then
    some false
  else
    bindO (f9.n (x.1, x.2.1, x.2.2.1, x.2.2.2.1, x.2.2.2.2.1, x.2.2.2.2.2.1, x.2.2.2.2.2.2.1, x.2.2.2.2.2.2.2.1, x.2.2.2.2.2.2.2.2.1)) fun y2 =>
    if (!(!((!y2) || (decide ((x.2.2.2.2.2.2.2.2.2.1.length : Int) > (20 : Int))))) || (ok (f10.n (x.1, x.2.1, x.2.2.1, x.2.2.2.1, x.2.2.2.2.1, x.2.2.2.2.2.1, x.2.2.2.2.2.2.1, x.2.2.2.2.2.2.2.1, x.2.2.2.2.2.2.2.2.1)))) then
    lt ((vl (f10.n (x.1, x.2.1, x.2.2.1, x.2.2.2.1, x.2.2.2.2.1, x.2.2.2.2.2.1, x.2.2.2.2.2.2.1, x.2.2.2.2.2.2.2.1, x.2.2.2.2.2.2.2.2.1)))) fun y3 =>
    if (((!y2) || (decide ((x.2.2.2.2.2.2.2.2.2.1.length : Int) > (20 : Int)))) || (!y3)) then
      some true
    else
      if small x.2.2.2.2.2.2.1 then
      bindE (foldE (fun (a4 : T49) (s4 : Unit) =>
          if ((decide (a4.2.2.2.2.2.2.2.2.2.1 > (4611686018427387904 : Int))) || (decide (a4.2.2.2.2.2.2.2.2.1 < (-4611686018427387904 : Int)))) then
            Res.ret (some true)
          else
            Res.go ()) x.2.2.2.2.2.2.1 ()) fun s4 =>
      bindO (f13.n (x.1, x.2.1, x.2.2.1, x.2.2.2.1, x.2.2.2.2.1, x.2.2.2.2.2.1, x.2.2.2.2.2.2.1, x.2.2.2.2.2.2.2.1, x.2.2.2.2.2.2.2.2.1, x.2.2.2.2.2.2.2.2.2.1)) fun y7 =>
      bindO (f11.n (x.1, x.2.1, x.2.2.1, x.2.2.2.1, x.2.2.2.2.1, x.2.2.2.2.2.1, x.2.2.2.2.2.2.1, x.2.2.2.2.2.2.2.1, x.2.2.2.2.2.2.2.2.1, y7, (4611686018427387904 : Int), x.2.2.2.2.2.2.2.2.2.1)) fun y8 =>
      bindO (f11.n (x.1, x.2.1, x.2.2.1, x.2.2.2.1, x.2.2.2.2.1, x.2.2.2.2.2.1, x.2.2.2.2.2.2.1, x.2.2.2.2.2.2.2.1, x.2.2.2.2.2.2.2.2.1, x.2.2.2.2.2.2.2.2.2.2, (4611686018427387904 : Int), x.2.2.2.2.2.2.2.2.2.1)) fun y9 =>
      if ((y8.2 == (3 : Int)) || (y9.2 == (3 : Int))) then
        some true
      else
        if (decide (x.2.2.2.2.2.2.2.2.2.2 < x.2.2.2.2.2.1)) then
          some (y9.2 == (24 : Int))
        else
          some (((y8.2 == (0 : Int)) || ((y8.2 == (24 : Int)) && (decide (y7 < x.2.2.2.2.2.1)))) && ((y9.2 == (0 : Int)) == (decide (x.2.2.2.2.2.2.2.2.2.2 ≤ y7))))
      else bot
    else bot
theorem f5.ref (x : Int × Int × Int × Int × Int × Int × (List T49) × (List T68) × (List T68) × (List T55) × Int) : RefI id (f5.n x) (f5.t f6.n f9.n f10.n f11.n f13.n BIG x) := (RefI.bindO rfl fun y1 => (RefI.ite RefI.some (RefI.bindO rfl fun y2 => (RefI.chk rfl (RefI.lt fun y3 => (RefI.ite RefI.some (RefI.for rfl (fun (i_ : Int) (s4 : Unit) => (i_ : Int)) (fun hs4 R4 i4 hi4 s4 => RefI.tt (lt_ok hi4) (RefI.tt (idx_ok hi4) (RefI.ltd (rd_ok hi4) (RefI.tt (or_ok (idx_ok hi4)) (RefI.ite (RefI.ret RefI.some) (RefI.next (mk := fun (i_ : Int) (s4 : Unit) => (i_ : Int)) (next_ok hi4 hs4))))))) (fun R4 s4 => RefI.ff lt_no (RefI.bindO rfl fun y7 => (RefI.bindO rfl fun y8 => (RefI.bindO rfl fun y9 => (RefI.ite RefI.some (RefI.ite RefI.some RefI.some)))))))))))))
theorem f5.spec : SpecOK Try.prog 5 (sp5 f5.n) := specOK_o mx fn5 (cx := cx5 f6.n f9.n f10.n f11.n f13.n BIG) (fds := lookF fds5) (d := 4) tab (specsOK_cons f6.spec (specsOK_cons f9.spec (specsOK_cons f10.spec (specsOK_cons f11.spec (specsOK_cons f13.spec specsOK_nil))))) fdsOK_nil (fun x y h => (f5.run f6.n f9.n f10.n f11.n f13.n BIG x).trans (f5.ref x y h))
end
end Go.Proofs.Ytcjmpignjljfbaa
