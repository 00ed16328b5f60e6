/- Texts of one proof, joined: an abstract machine for the program, its functions evaluated, plain lemmas. Conditions: those that each lemma names. -/
import Derived.Test.YtmmdjajebmihhaaM5

/- What functions whose answers are open make of their arguments; each is what its evaluation says. Printed by fn.py. -/
namespace Go.Proofs.Ytmmdjajebmihhaa.AM
open Go Go.Proofs
set_option linter.unusedVariables false
set_option maxRecDepth 100000
set_option maxHeartbeats 0

/- "loop.example/g03321/spec.l06Speed" -/
noncomputable def N108 (p107 : I107.den → Bool) (Q107 : I107.den → O107.den → Prop) (e107 : Nonempty (Ch I107 O107 p107 Q107)) : NEnv := mkN [(107, sgFam true I107 O107 p107 Q107 e107)] []
noncomputable def rN108 (k66 : I66.den → Bool) (g66 : I66.den → O66.den) (k107 : I107.den → Bool) (g107 : I107.den → O107.den) (p107 : I107.den → Bool) (Q107 : I107.den → O107.den → Prop) (e107 : Nonempty (Ch I107 O107 p107 Q107)) (h : O108.den → Option Unit) (x : I108.den) : Option Unit :=
  let v0 := (k66 (((), 16, ()), x.snd))
  bif (v0) then
    let v1 := (g66 (((), 16, ()), x.snd))
    bif (v1.fst.fst == 0) then
      allK fun (c107_6 : Ch I107 O107 p107 Q107) =>
        let v2 := (p107 (((), 60, ()), v1.snd))
        bif (v2) then
          let v3 := (c107_6.val (((), 60, ()), v1.snd))
          h (((v3.fst.1), ()), (((v3.snd.fst.1), ((v3.snd.fst.snd.1), ((v3.snd.fst.snd.snd.1), ()))), ()))
        else
          none
    else
      bif (v1.fst.fst == 1) then
        h (((0), ()), (((v1.snd.fst.1), ((v1.snd.fst.snd.1), ((v1.snd.fst.snd.snd.1), ()))), ()))
      else
        bif (v1.fst.fst == 2) then
          h (((1112014848), ()), (((v1.snd.fst.1), ((v1.snd.fst.snd.1), ((v1.snd.fst.snd.snd.1), ()))), ()))
        else
          let v2 := (k66 (((), 161, ()), v1.snd))
          bif (v2) then
            let v3 := (g66 (((), 161, ()), v1.snd))
            let v4 := (farith BinOp.quo FloatKind.f32 (FloatKind.nearest FloatKind.f32 v3.fst.fst) 1098907648)
            h (((v4), ()), (((v3.snd.fst.1), ((v3.snd.fst.snd.1), ((v3.snd.fst.snd.snd.1), ()))), ()))
          else
            none
  else
    none
theorem evN108 (k66 : I66.den → Bool) (g66 : I66.den → O66.den) (k107 : I107.den → Bool) (g107 : I107.den → O107.den) (p107 : I107.den → Bool) (Q107 : I107.den → O107.den → Prop) (e107 : Nonempty (Ch I107 O107 p107 Q107)) (h : O108.den → Option Unit) (x : I108.den) : callSN (Γ108 k66 g66 k107 g107) (N108 p107 Q107 e107) (bodyOf Try.f108) I108 O108 h x = rN108 k66 g66 k107 g107 p107 Q107 e107 h x := by kernel_rfl

/- "loop.example/g03321/spec.l07Leg" -/
noncomputable def N91 (p108 : I108.den → Bool) (Q108 : I108.den → O108.den → Prop) (e108 : Nonempty (Ch I108 O108 p108 Q108)) : NEnv := mkN [(108, sgFam true I108 O108 p108 Q108 e108)] []
noncomputable def rN91 (k46 : I46.den → Bool) (g46 : I46.den → O46.den) (k108 : I108.den → Bool) (g108 : I108.den → O108.den) (k66 : I66.den → Bool) (g66 : I66.den → O66.den) (k76 : I76.den → Bool) (g76 : I76.den → O76.den) (p108 : I108.den → Bool) (Q108 : I108.den → O108.den → Prop) (e108 : Nonempty (Ch I108 O108 p108 Q108)) (h : O91.den → Option Unit) (x : I91.den) : Option Unit :=
  let v0 := (k46 (((), ()), x.snd))
  bif (v0) then
    allK fun (c108_4 : Ch I108 O108 p108 Q108) =>
      let v1 := (g46 (((), ()), x.snd))
      let v2 := (p108 (((), ()), v1.snd))
      bif (v2) then
        let v3 := (c108_4.val (((), ()), v1.snd))
        let v4 := (k66 (((), 4000, ()), v3.snd))
        bif (v4) then
          let v5 := (g66 (((), 4000, ()), v3.snd))
          let v6 := (k66 (((), 14, ()), v5.snd))
          bif (v6) then
            let v7 := (g66 (((), 14, ()), v5.snd))
            bif (v7.fst.fst == 0) then
              let v8 := (List.set (List.replicate 5 (zero (Ty.int IntKind.i64))) 0 (-1))
              let v9 := (List.set v8 1 0)
              let v10 := (List.set v9 2 600)
              let v11 := (List.set v10 3 100000)
              let v12 := (List.set v11 4 100001)
              let v13 := (k76 (((), (), ()), v7.snd.fst, v12, ()))
              bif (v13) then
                let v14 := (g76 (((), (), ()), v7.snd.fst, v12, ()))
                h ((((v1.fst.1), ((v3.fst.1), ((v14.fst.1), ()))), ()), (((v14.snd.fst.1), ((v14.snd.fst.snd.1), ((v14.snd.fst.snd.snd.1), ()))), ()))
              else
                none
            else
              bif (v7.fst.fst == 1) then
                let v8 := (k66 (((), 5, ()), v7.snd))
                bif (v8) then
                  let v9 := (g66 (((), 5, ()), v7.snd))
                  let v10 := (IntKind.wrap IntKind.i64 (600 * v9.fst.fst))
                  h ((((v1.fst.1), ((v3.fst.1), ((v10), ()))), ()), (((v9.snd.fst.1), ((v9.snd.fst.snd.1), ((v9.snd.fst.snd.snd.1), ()))), ()))
                else
                  none
              else
                h ((((v1.fst.1), ((v3.fst.1), ((v5.fst.1), ()))), ()), (((v7.snd.fst.1), ((v7.snd.fst.snd.1), ((v7.snd.fst.snd.snd.1), ()))), ()))
          else
            none
        else
          none
      else
        none
  else
    none
theorem evN91 (k46 : I46.den → Bool) (g46 : I46.den → O46.den) (k108 : I108.den → Bool) (g108 : I108.den → O108.den) (k66 : I66.den → Bool) (g66 : I66.den → O66.den) (k76 : I76.den → Bool) (g76 : I76.den → O76.den) (p108 : I108.den → Bool) (Q108 : I108.den → O108.den → Prop) (e108 : Nonempty (Ch I108 O108 p108 Q108)) (h : O91.den → Option Unit) (x : I91.den) : callSN (Γ91 k46 g46 k108 g108 k66 g66 k76 g76) (N91 p108 Q108 e108) (bodyOf Try.f91) I91 O91 h x = rN91 k46 g46 k108 g108 k66 g66 k76 g76 p108 Q108 e108 h x := by kernel_rfl

/- "loop.example/g03321/spec.l05Any" -/
noncomputable def N58 (p90 : I90.den → Bool) (Q90 : I90.den → O90.den → Prop) (e90 : Nonempty (Ch I90 O90 p90 Q90)) : NEnv := mkN [(90, sgFam true I90 O90 p90 Q90 e90)] []
noncomputable def rN58 (k87 : I87.den → Bool) (g87 : I87.den → O87.den) (k66 : I66.den → Bool) (g66 : I66.den → O66.den) (k89 : I89.den → Bool) (g89 : I89.den → O89.den) (k88 : Den A88 → Bool) (g88 : Den A88 → Den R88) (k90 : I90.den → Bool) (g90 : I90.den → O90.den) (k75 : I75.den → Bool) (g75 : I75.den → O75.den) (kl15 : V58_15 → Bool) (xl15 : V58_15 → X58_15) (p90 : I90.den → Bool) (Q90 : I90.den → O90.den → Prop) (e90 : Nonempty (Ch I90 O90 p90 Q90)) (h : O58.den → Option Unit) (x : I58.den) : Option Unit :=
  let v0 := (k87 (((), ()), x.snd))
  bif (v0) then
    let v1 := (g87 (((), ()), x.snd))
    let v2 := (k66 (((), (↑(List.length v1.snd.snd.fst) : Int), ()), v1.snd.fst, ()))
    bif (v2) then
      let v3 := (g66 (((), (↑(List.length v1.snd.snd.fst) : Int), ()), v1.snd.fst, ()))
      let v4 := (k66 (((), 24, ()), v3.snd))
      bif (v4) then
        let v5 := (g66 (((), 24, ()), v3.snd))
        bif (v5.fst.fst == 0) then
          let v6 := (k89 (((), ()), v5.snd))
          bif (v6) then
            let v7 := (g89 (((), ()), v5.snd))
            let v8 := (IntKind.wrap IntKind.u8 v7.fst.fst)
            let v9 := (List.set (List.replicate 1 (zero (Ty.int IntKind.u8))) 0 v8)
            let v10 := (k88 (v9, ()))
            bif (v10) then
              bif (decide (0 ≤ v3.fst.fst) && decide (v3.fst.fst < (↑(List.length v1.snd.snd.fst) : Int))) then
                let v11 := (g88 (v9, ()))
                let v12 := (List.getD v1.snd.snd.fst (Int.toNat v3.fst.fst) (zero S96))
                let v13 := (List.set v1.snd.snd.fst (Int.toNat v3.fst.fst) (v11.fst, v12.snd))
                h ((((v13), ((v1.snd.snd.snd.1), ())), ()), (((v7.snd.fst.1), ((v7.snd.fst.snd.1), ((v7.snd.fst.snd.snd.1), ()))), ()))
              else
                none
            else
              none
          else
            none
        else
          bif (v5.fst.fst == 1) then
            allK fun (c90_12 : Ch I90 O90 p90 Q90) =>
              let v6 := (k66 (((), 13, ()), v5.snd))
              bif (v6) then
                let v7 := (g66 (((), 13, ()), v5.snd))
                let v8 := (p90 (((), ()), v7.snd))
                bif (v8) then
                  bif (decide (0 ≤ v3.fst.fst) && decide (v3.fst.fst < (↑(List.length v1.snd.snd.fst) : Int))) then
                    bif (decide (0 ≤ v7.fst.fst) && decide (v7.fst.fst < (↑13 : Int))) then
                      let v9 := (List.getD v1.snd.snd.fst (Int.toNat v3.fst.fst) (zero S96))
                      let v10 := (c90_12.val (((), ()), v7.snd))
                      let v11 := (List.set v1.snd.snd.fst (Int.toNat v3.fst.fst) (v9.fst, ((bif Nat.beq 0 (Int.toNat v7.fst.fst) then v10.fst.fst.fst else v9.snd.fst.fst.fst, bif Nat.beq 0 (Int.toNat v7.fst.fst) then v10.fst.fst.snd else v9.snd.fst.fst.snd), (bif Nat.beq (0 + 1) (Int.toNat v7.fst.fst) then v10.fst.fst.fst else v9.snd.fst.snd.fst.fst, bif Nat.beq (0 + 1) (Int.toNat v7.fst.fst) then v10.fst.fst.snd else v9.snd.fst.snd.fst.snd), (bif Nat.beq (0 + 1 + 1) (Int.toNat v7.fst.fst) then v10.fst.fst.fst else v9.snd.fst.snd.snd.fst.fst, bif Nat.beq (0 + 1 + 1) (Int.toNat v7.fst.fst) then v10.fst.fst.snd else v9.snd.fst.snd.snd.fst.snd), (bif Nat.beq (0 + 1 + 1 + 1) (Int.toNat v7.fst.fst) then v10.fst.fst.fst else v9.snd.fst.snd.snd.snd.fst.fst, bif Nat.beq (0 + 1 + 1 + 1) (Int.toNat v7.fst.fst) then v10.fst.fst.snd else v9.snd.fst.snd.snd.snd.fst.snd), (bif Nat.beq (0 + 1 + 1 + 1 + 1) (Int.toNat v7.fst.fst) then v10.fst.fst.fst else v9.snd.fst.snd.snd.snd.snd.fst.fst, bif Nat.beq (0 + 1 + 1 + 1 + 1) (Int.toNat v7.fst.fst) then v10.fst.fst.snd else v9.snd.fst.snd.snd.snd.snd.fst.snd), (bif Nat.beq (0 + 1 + 1 + 1 + 1 + 1) (Int.toNat v7.fst.fst) then v10.fst.fst.fst else v9.snd.fst.snd.snd.snd.snd.snd.fst.fst, bif Nat.beq (0 + 1 + 1 + 1 + 1 + 1) (Int.toNat v7.fst.fst) then v10.fst.fst.snd else v9.snd.fst.snd.snd.snd.snd.snd.fst.snd), (bif Nat.beq (0 + 1 + 1 + 1 + 1 + 1 + 1) (Int.toNat v7.fst.fst) then v10.fst.fst.fst else v9.snd.fst.snd.snd.snd.snd.snd.snd.fst.fst, bif Nat.beq (0 + 1 + 1 + 1 + 1 + 1 + 1) (Int.toNat v7.fst.fst) then v10.fst.fst.snd else v9.snd.fst.snd.snd.snd.snd.snd.snd.fst.snd), (bif Nat.beq (0 + 1 + 1 + 1 + 1 + 1 + 1 + 1) (Int.toNat v7.fst.fst) then v10.fst.fst.fst else v9.snd.fst.snd.snd.snd.snd.snd.snd.snd.fst.fst, bif Nat.beq (0 + 1 + 1 + 1 + 1 + 1 + 1 + 1) (Int.toNat v7.fst.fst) then v10.fst.fst.snd else v9.snd.fst.snd.snd.snd.snd.snd.snd.snd.fst.snd), (bif Nat.beq (0 + 1 + 1 + 1 + 1 + 1 + 1 + 1 + 1) (Int.toNat v7.fst.fst) then v10.fst.fst.fst else v9.snd.fst.snd.snd.snd.snd.snd.snd.snd.snd.fst.fst, bif Nat.beq (0 + 1 + 1 + 1 + 1 + 1 + 1 + 1 + 1) (Int.toNat v7.fst.fst) then v10.fst.fst.snd else v9.snd.fst.snd.snd.snd.snd.snd.snd.snd.snd.fst.snd), (bif Nat.beq (0 + 1 + 1 + 1 + 1 + 1 + 1 + 1 + 1 + 1) (Int.toNat v7.fst.fst) then v10.fst.fst.fst else v9.snd.fst.snd.snd.snd.snd.snd.snd.snd.snd.snd.fst.fst, bif Nat.beq (0 + 1 + 1 + 1 + 1 + 1 + 1 + 1 + 1 + 1) (Int.toNat v7.fst.fst) then v10.fst.fst.snd else v9.snd.fst.snd.snd.snd.snd.snd.snd.snd.snd.snd.fst.snd), (bif Nat.beq (0 + 1 + 1 + 1 + 1 + 1 + 1 + 1 + 1 + 1 + 1) (Int.toNat v7.fst.fst) then v10.fst.fst.fst else v9.snd.fst.snd.snd.snd.snd.snd.snd.snd.snd.snd.snd.fst.fst, bif Nat.beq (0 + 1 + 1 + 1 + 1 + 1 + 1 + 1 + 1 + 1 + 1) (Int.toNat v7.fst.fst) then v10.fst.fst.snd else v9.snd.fst.snd.snd.snd.snd.snd.snd.snd.snd.snd.snd.fst.snd), (bif Nat.beq (0 + 1 + 1 + 1 + 1 + 1 + 1 + 1 + 1 + 1 + 1 + 1) (Int.toNat v7.fst.fst) then v10.fst.fst.fst else v9.snd.fst.snd.snd.snd.snd.snd.snd.snd.snd.snd.snd.snd.fst.fst, bif Nat.beq (0 + 1 + 1 + 1 + 1 + 1 + 1 + 1 + 1 + 1 + 1 + 1) (Int.toNat v7.fst.fst) then v10.fst.fst.snd else v9.snd.fst.snd.snd.snd.snd.snd.snd.snd.snd.snd.snd.snd.fst.snd), (bif Nat.beq (0 + 1 + 1 + 1 + 1 + 1 + 1 + 1 + 1 + 1 + 1 + 1 + 1) (Int.toNat v7.fst.fst) then v10.fst.fst.fst else v9.snd.fst.snd.snd.snd.snd.snd.snd.snd.snd.snd.snd.snd.snd.fst.fst, bif Nat.beq (0 + 1 + 1 + 1 + 1 + 1 + 1 + 1 + 1 + 1 + 1 + 1 + 1) (Int.toNat v7.fst.fst) then v10.fst.fst.snd else v9.snd.fst.snd.snd.snd.snd.snd.snd.snd.snd.snd.snd.snd.snd.fst.snd), ()), ()))
                      h ((((v11), ((v1.snd.snd.snd.1), ())), ()), (((v10.snd.fst.1), ((v10.snd.fst.snd.1), ((v10.snd.fst.snd.snd.1), ()))), ()))
                    else
                      none
                  else
                    none
                else
                  none
              else
                none
          else
            bif (v5.fst.fst == 2) then
              let v6 := (k66 (((), (↑(List.length v1.snd.snd.snd.fst) : Int), ()), v5.snd))
              bif (v6) then
                let v7 := (g66 (((), (↑(List.length v1.snd.snd.snd.fst) : Int), ()), v5.snd))
                let v8 := (k75 (((), ()), v7.snd))
                bif (v8) then
                  bif (decide (0 ≤ v7.fst.fst) && decide (v7.fst.fst < (↑(List.length v1.snd.snd.snd.fst) : Int))) then
                    let v9 := (g75 (((), ()), v7.snd))
                    let v10 := (List.set v1.snd.snd.snd.fst (Int.toNat v7.fst.fst) v9.fst.fst)
                    h ((((v1.snd.snd.1), ((v10), ())), ()), (((v9.snd.fst.1), ((v9.snd.fst.snd.1), ((v9.snd.fst.snd.snd.1), ()))), ()))
                  else
                    none
                else
                  none
              else
                none
            else
              bif (v5.fst.fst == 3) then
                h ((((v1.snd.snd.1), ((List.replicate 0 (zero (Ty.int IntKind.i64))), ())), ()), (((v5.snd.fst.1), ((v5.snd.fst.snd.1), ((v5.snd.fst.snd.snd.1), ()))), ()))
              else
                bif (v5.fst.fst == 4) then
                  h ((((List.replicate 0 (zero S96)), ((v1.snd.snd.snd.1), ())), ()), (((v5.snd.fst.1), ((v5.snd.fst.snd.1), ((v5.snd.fst.snd.snd.1), ()))), ()))
                else
                  bif (v5.fst.fst == 5) then
                    let v6 := (kl15 (((), (), (), ()), v5.snd.fst, ((), (), ()), ((), (), ()), v1.snd.snd))
                    bif (v6) then
                      let v7 := (xl15 (((), (), (), ()), v5.snd.fst, ((), (), ()), ((), (), ()), v1.snd.snd))
                      h ((((v7.snd.snd.snd.snd.1), ((v7.snd.snd.snd.snd.snd.1), ())), ()), (((v7.snd.fst.1), ((v7.snd.fst.snd.1), ((v7.snd.fst.snd.snd.1), ()))), ()))
                    else
                      none
                  else
                    bif (v5.fst.fst == 6) then
                      let v6 := (IntKind.wrap IntKind.i64 ((↑(List.length v1.snd.snd.snd.fst) : Int) - 1))
                      bif (decide (0 ≤ v6) && decide (v6 < (↑(List.length v1.snd.snd.snd.fst) : Int))) then
                        let v7 := (List.getD v1.snd.snd.snd.fst (Int.toNat v6) (zero (Ty.int IntKind.i64)))
                        let v8 := (IntKind.wrap IntKind.i64 (v7 + 21600))
                        let v9 := (IntKind.wrap IntKind.i64 (v8 - 1))
                        let v10 := (List.set (List.replicate 1 (zero (Ty.int IntKind.i64))) 0 v9)
                        bif (capOk (List.length v1.snd.snd.snd.fst + List.length v10)) then
                          let v11 := (v1.snd.snd.snd.fst ++ v10)
                          h ((((v1.snd.snd.1), ((v11), ())), ()), (((v5.snd.fst.1), ((v5.snd.fst.snd.1), ((v5.snd.fst.snd.snd.1), ()))), ()))
                        else
                          none
                      else
                        none
                    else
                      h ((((v1.snd.snd.1), ((v1.snd.snd.snd.1), ())), ()), (((v5.snd.fst.1), ((v5.snd.fst.snd.1), ((v5.snd.fst.snd.snd.1), ()))), ()))
      else
        none
    else
      none
  else
    none
theorem evN58 (k87 : I87.den → Bool) (g87 : I87.den → O87.den) (k66 : I66.den → Bool) (g66 : I66.den → O66.den) (k89 : I89.den → Bool) (g89 : I89.den → O89.den) (k88 : Den A88 → Bool) (g88 : Den A88 → Den R88) (k90 : I90.den → Bool) (g90 : I90.den → O90.den) (k75 : I75.den → Bool) (g75 : I75.den → O75.den) (kl15 : V58_15 → Bool) (xl15 : V58_15 → X58_15) (p90 : I90.den → Bool) (Q90 : I90.den → O90.den → Prop) (e90 : Nonempty (Ch I90 O90 p90 Q90)) (h : O58.den → Option Unit) (x : I58.den) : callSN (Γ58 k87 g87 k66 g66 k89 g89 k88 g88 k90 g90 k75 g75 kl15 xl15) (N58 p90 Q90 e90) (bodyOf Try.f58) I58 O58 h x = rN58 k87 g87 k66 g66 k89 g89 k88 g88 k90 g90 k75 g75 kl15 xl15 p90 Q90 e90 h x := by kernel_rfl

/- "loop.example/g03321/spec.l07Some" -/
noncomputable def N61 (p91 : I91.den → Bool) (Q91 : I91.den → O91.den → Prop) (e91 : Nonempty (Ch I91 O91 p91 Q91)) (pL61_5 : V61_5 → Bool) (QL61_5 : V61_5 → X61_5 → Prop) (eL61_5 : Nonempty (ChL pL61_5 QL61_5)) : NEnv := mkN [(91, sgFam true I91 O91 p91 Q91 e91)] [(5, loopXN [0, 3, 4] [] 0 [3] [] sh61_5 shX61_5 pL61_5 QL61_5 eL61_5)]
noncomputable def qN61_5 (k66 : I66.den → Bool) (g66 : I66.den → O66.den) (k45 : I45.den → Bool) (g45 : I45.den → O45.den) (k91 : I91.den → Bool) (g91 : I91.den → O91.den) (kl5 : V61_5 → Bool) (xl5 : V61_5 → X61_5) (p91 : I91.den → Bool) (Q91 : I91.den → O91.den → Prop) (e91 : Nonempty (Ch I91 O91 p91 Q91)) (pL61_5 : V61_5 → Bool) (QL61_5 : V61_5 → X61_5 → Prop) (eL61_5 : Nonempty (ChL pL61_5 QL61_5)) (h : X61_5 → Option Unit) (f : V61_5 → Option Unit) (v : V61_5) : Option Unit :=
  bif (decide (v.fst.snd.snd.fst > 0)) then
    allK fun (c91_4 : Ch I91 O91 p91 Q91) =>
      let v0 := (p91 (((), ()), v.snd.fst, ()))
      bif (v0) then
        let v1 := (c91_4.val (((), ()), v.snd.fst, ()))
        let v2 := (List.set (List.replicate 1 (zero S53)) 0 v1.fst.fst)
        bif (capOk (List.length v.snd.snd.fst + List.length v2)) then
          let v3 := (IntKind.wrap IntKind.i64 (v.fst.snd.snd.fst - 1))
          let v4 := (v.snd.snd.fst ++ v2)
          f (((), ((), ((v3), ()))), (((v1.snd.fst.1), ((v1.snd.fst.snd.1), ((v1.snd.fst.snd.snd.1), ()))), ((v4), ())))
        else
          none
      else
        none
  else
    h (((), ()), (((v.snd.fst.1), ((v.snd.fst.snd.1), ((v.snd.fst.snd.snd.1), ()))), ((v.snd.snd.1), ())))
theorem evlN61_5 (k66 : I66.den → Bool) (g66 : I66.den → O66.den) (k45 : I45.den → Bool) (g45 : I45.den → O45.den) (k91 : I91.den → Bool) (g91 : I91.den → O91.den) (kl5 : V61_5 → Bool) (xl5 : V61_5 → X61_5) (p91 : I91.den → Bool) (Q91 : I91.den → O91.den → Prop) (e91 : Nonempty (Ch I91 O91 p91 Q91)) (pL61_5 : V61_5 → Bool) (QL61_5 : V61_5 → X61_5 → Prop) (eL61_5 : Nonempty (ChL pL61_5 QL61_5)) (h : X61_5 → Option Unit) (f : V61_5 → Option Unit) (v : V61_5) : EBn (Γ61 k66 g66 k45 g45 k91 g91 kl5 xl5) (N61 p91 Q91 e91 pL61_5 QL61_5 eL61_5) lc61_5 (roundK [0, 3, 4] [] 0 [3] [] (atS sh61_5 f) (endH shX61_5 h)) (mkS sh61_5 v) = qN61_5 k66 g66 k45 g45 k91 g91 kl5 xl5 p91 Q91 e91 pL61_5 QL61_5 eL61_5 h f v := by kernel_rfl
noncomputable def rN61 (k66 : I66.den → Bool) (g66 : I66.den → O66.den) (k45 : I45.den → Bool) (g45 : I45.den → O45.den) (k91 : I91.den → Bool) (g91 : I91.den → O91.den) (kl5 : V61_5 → Bool) (xl5 : V61_5 → X61_5) (p91 : I91.den → Bool) (Q91 : I91.den → O91.den → Prop) (e91 : Nonempty (Ch I91 O91 p91 Q91)) (pL61_5 : V61_5 → Bool) (QL61_5 : V61_5 → X61_5 → Prop) (eL61_5 : Nonempty (ChL pL61_5 QL61_5)) (h : O61.den → Option Unit) (x : I61.den) : Option Unit :=
  let v0 := (k66 (((), 5, ()), x.snd))
  bif (v0) then
    let v1 := (g66 (((), 5, ()), x.snd))
    let v2 := (k45 (((), 40, ()), v1.snd))
    bif (v2) then
      let v3 := (g45 (((), 40, ()), v1.snd))
      bif (v3.fst.1) then
        let v4 := (k66 (((), 2, ()), v3.snd))
        bif (v4) then
          let v5 := (g66 (((), 2, ()), v3.snd))
          let v6 := (IntKind.wrap IntKind.i64 (50 + v5.fst.fst))
          let v7 := (pL61_5 (((), (), v6, ()), v5.snd.fst, List.replicate 0 (zero S53), ()))
          bif (v7) then
            allK fun (cL61_5_12 : ChL pL61_5 QL61_5) =>
              let v8 := (cL61_5_12.val (((), (), v6, ()), v5.snd.fst, List.replicate 0 (zero S53), ()))
              h (((), ()), (((v8.snd.fst.1), ((v8.snd.fst.snd.1), ((v8.snd.fst.snd.snd.1), ()))), ((v8.snd.snd.1), ())))
          else
            none
        else
          none
      else
        let v4 := (pL61_5 (((), (), v1.fst), v3.snd.fst, List.replicate 0 (zero S53), ()))
        bif (v4) then
          allK fun (cL61_5_10 : ChL pL61_5 QL61_5) =>
            let v5 := (cL61_5_10.val (((), (), v1.fst), v3.snd.fst, List.replicate 0 (zero S53), ()))
            h (((), ()), (((v5.snd.fst.1), ((v5.snd.fst.snd.1), ((v5.snd.fst.snd.snd.1), ()))), ((v5.snd.snd.1), ())))
        else
          none
    else
      none
  else
    none
theorem evN61 (k66 : I66.den → Bool) (g66 : I66.den → O66.den) (k45 : I45.den → Bool) (g45 : I45.den → O45.den) (k91 : I91.den → Bool) (g91 : I91.den → O91.den) (kl5 : V61_5 → Bool) (xl5 : V61_5 → X61_5) (p91 : I91.den → Bool) (Q91 : I91.den → O91.den → Prop) (e91 : Nonempty (Ch I91 O91 p91 Q91)) (pL61_5 : V61_5 → Bool) (QL61_5 : V61_5 → X61_5 → Prop) (eL61_5 : Nonempty (ChL pL61_5 QL61_5)) (h : O61.den → Option Unit) (x : I61.den) : callSN (Γ61 k66 g66 k45 g45 k91 g91 kl5 xl5) (N61 p91 Q91 e91 pL61_5 QL61_5 eL61_5) (bodyOf Try.f61) I61 O61 h x = rN61 k66 g66 k45 g45 k91 g91 kl5 xl5 p91 Q91 e91 pL61_5 QL61_5 eL61_5 h x := by kernel_rfl

/- "loop.example/g03321/spec.DrawRunTide" -/
noncomputable def N20 (p58 : I58.den → Bool) (Q58 : I58.den → O58.den → Prop) (e58 : Nonempty (Ch I58 O58 p58 Q58)) (p61 : I61.den → Bool) (Q61 : I61.den → O61.den → Prop) (e61 : Nonempty (Ch I61 O61 p61 Q61)) : NEnv := mkN [(58, sgFam true I58 O58 p58 Q58 e58), (61, sgFam true I61 O61 p61 Q61 e61)] []
noncomputable def rN20 (k30 : I30.den → Bool) (g30 : I30.den → O30.den) (k58 : I58.den → Bool) (g58 : I58.den → O58.den) (k59 : I59.den → Bool) (g59 : I59.den → O59.den) (k60 : I60.den → Bool) (g60 : I60.den → O60.den) (k61 : I61.den → Bool) (g61 : I61.den → O61.den) (p58 : I58.den → Bool) (Q58 : I58.den → O58.den → Prop) (e58 : Nonempty (Ch I58 O58 p58 Q58)) (p61 : I61.den → Bool) (Q61 : I61.den → O61.den → Prop) (e61 : Nonempty (Ch I61 O61 p61 Q61)) (h : O20.den → Option Unit) (x : I20.den) : Option Unit :=
  let v0 := (k30 x)
  bif (v0) then
    allK fun (c58_4 : Ch I58 O58 p58 Q58) =>
      let v1 := (g30 x)
      let v2 := (p58 (((), ()), v1.snd))
      bif (v2) then
        let v3 := (c58_4.val (((), ()), v1.snd))
        let v4 := (k59 (((), v3.fst), v3.snd))
        bif (v4) then
          let v5 := (g59 (((), v3.fst), v3.snd))
          let v6 := (k60 (((), v3.fst), v5.snd))
          bif (v6) then
            allK fun (c61_12 : Ch I61 O61 p61 Q61) =>
              let v7 := (g60 (((), v3.fst), v5.snd))
              let v8 := (p61 (((), ()), v7.snd))
              bif (v8) then
                let v9 := (c61_12.val (((), ()), v7.snd))
                h ((((v5.fst.fst.1), (v5.fst.fst.2)), ((v7.fst.1), ((), (((v3.fst.fst.1), ((v3.fst.fst.snd.1), ())), ())))), ((v9.snd.snd.1), ()))
              else
                none
          else
            none
        else
          none
      else
        none
  else
    none
theorem evN20 (k30 : I30.den → Bool) (g30 : I30.den → O30.den) (k58 : I58.den → Bool) (g58 : I58.den → O58.den) (k59 : I59.den → Bool) (g59 : I59.den → O59.den) (k60 : I60.den → Bool) (g60 : I60.den → O60.den) (k61 : I61.den → Bool) (g61 : I61.den → O61.den) (p58 : I58.den → Bool) (Q58 : I58.den → O58.den → Prop) (e58 : Nonempty (Ch I58 O58 p58 Q58)) (p61 : I61.den → Bool) (Q61 : I61.den → O61.den → Prop) (e61 : Nonempty (Ch I61 O61 p61 Q61)) (h : O20.den → Option Unit) (x : I20.den) : callSN (Γ20 k30 g30 k58 g58 k59 g59 k60 g60 k61 g61) (N20 p58 Q58 e58 p61 Q61 e61) (bodyOf Try.f20) I20 O20 h x = rN20 k30 g30 k58 g58 k59 g59 k60 g60 k61 g61 p58 Q58 e58 p61 Q61 e61 h x := by kernel_rfl

/- "loop.example/g03321/spec.DrawSlackFrom" -/
noncomputable def N25 (p58 : I58.den → Bool) (Q58 : I58.den → O58.den → Prop) (e58 : Nonempty (Ch I58 O58 p58 Q58)) : NEnv := mkN [(58, sgFam true I58 O58 p58 Q58 e58)] []
noncomputable def rN25 (k30 : I30.den → Bool) (g30 : I30.den → O30.den) (k58 : I58.den → Bool) (g58 : I58.den → O58.den) (k59 : I59.den → Bool) (g59 : I59.den → O59.den) (k60 : I60.den → Bool) (g60 : I60.den → O60.den) (k45 : I45.den → Bool) (g45 : I45.den → O45.den) (k66 : I66.den → Bool) (g66 : I66.den → O66.den) (p58 : I58.den → Bool) (Q58 : I58.den → O58.den → Prop) (e58 : Nonempty (Ch I58 O58 p58 Q58)) (h : Den R25 → Option Unit) (x : Den A25) : Option Unit :=
  let v0 := (k30 (x, ()))
  bif (v0) then
    allK fun (c58_4 : Ch I58 O58 p58 Q58) =>
      let v1 := (g30 (x, ()))
      let v2 := (p58 (((), ()), v1.snd))
      bif (v2) then
        let v3 := (c58_4.val (((), ()), v1.snd))
        let v4 := (k59 (((), v3.fst), v3.snd))
        bif (v4) then
          let v5 := (g59 (((), v3.fst), v3.snd))
          let v6 := (k60 (((), v3.fst), v5.snd))
          bif (v6) then
            let v7 := (g60 (((), v3.fst), v5.snd))
            let v8 := (k45 (((), 10, ()), v7.snd))
            bif (v8) then
              let v9 := (g45 (((), 10, ()), v7.snd))
              bif (v9.fst.1) then
                let v10 := (k66 (((), 800, ()), v9.snd))
                bif (v10) then
                  let v11 := (g66 (((), 800, ()), v9.snd))
                  let v12 := (k66 (((), 20, ()), v11.snd))
                  bif (v12) then
                    let v13 := (IntKind.wrap IntKind.i64 (-60 * v11.fst.fst))
                    let v14 := (g66 (((), 20, ()), v11.snd))
                    let v15 := (IntKind.wrap IntKind.i64 (v14.fst.fst - 1))
                    let v16 := (farith BinOp.quo FloatKind.f32 (FloatKind.nearest FloatKind.f32 v15) 1098907648)
                    h (((v3.fst.fst.1), ((v3.fst.fst.snd.1), ())), (((v5.fst.fst.1), (v5.fst.fst.2)), ((v13), ((v16), ()))))
                  else
                    none
                else
                  none
              else
                let v10 := (k66 (((), 20, ()), v9.snd))
                bif (v10) then
                  let v11 := (g66 (((), 20, ()), v9.snd))
                  let v12 := (IntKind.wrap IntKind.i64 (v11.fst.fst - 1))
                  let v13 := (farith BinOp.quo FloatKind.f32 (FloatKind.nearest FloatKind.f32 v12) 1098907648)
                  h (((v3.fst.fst.1), ((v3.fst.fst.snd.1), ())), (((v5.fst.fst.1), (v5.fst.fst.2)), ((v7.fst.1), ((v13), ()))))
                else
                  none
            else
              none
          else
            none
        else
          none
      else
        none
  else
    none
theorem evN25 (k30 : I30.den → Bool) (g30 : I30.den → O30.den) (k58 : I58.den → Bool) (g58 : I58.den → O58.den) (k59 : I59.den → Bool) (g59 : I59.den → O59.den) (k60 : I60.den → Bool) (g60 : I60.den → O60.den) (k45 : I45.den → Bool) (g45 : I45.den → O45.den) (k66 : I66.den → Bool) (g66 : I66.den → O66.den) (p58 : I58.den → Bool) (Q58 : I58.den → O58.den → Prop) (e58 : Nonempty (Ch I58 O58 p58 Q58)) (h : Den R25 → Option Unit) (x : Den A25) : callN (Γ25 k30 g30 k58 g58 k59 g59 k60 g60 k45 g45 k66 g66) (N25 p58 Q58 e58) (bodyOf Try.f25) (decRH R25 h) (encA A25 x) [] = rN25 k30 g30 k58 g58 k59 g59 k60 g60 k45 g45 k66 g66 p58 Q58 e58 h x := by kernel_rfl

/- "loop.example/g03321/laws.FnTideStill" -/
noncomputable def N5 (p20 : I20.den → Bool) (Q20 : I20.den → O20.den → Prop) (e20 : Nonempty (Ch I20 O20 p20 Q20)) : NEnv := mkN [(20, sgFam false I20 O20 p20 Q20 e20)] []
noncomputable def rN5 (k7 : Den A7 → Bool) (g7 : Den A7 → Den R7) (k20 : I20.den → Bool) (g20 : I20.den → O20.den) (k21 : Den A21 → Bool) (g21 : Den A21 → Den R21) (k22 : Den A22 → Bool) (g22 : Den A22 → Den R22) (k23 : Den A23 → Bool) (g23 : Den A23 → Den R23) (k24 : Den A24 → Bool) (g24 : Den A24 → Den R24) (kl5 : V5_5 → Bool) (xl5 : V5_5 → X5_5) (kl11 : V5_11 → Bool) (xl11 : V5_11 → X5_11) (p20 : I20.den → Bool) (Q20 : I20.den → O20.den → Prop) (e20 : Nonempty (Ch I20 O20 p20 Q20)) (h : Den R5 → Option Unit) (x : Den A5) : Option Unit :=
  let v0 := (k7 x)
  bif (v0) then
    let v1 := (g7 x)
    bif (v1.1) then
      h ((true), ())
    else
      allK fun (c20_6 : Ch I20 O20 p20 Q20) =>
        let v2 := (p20 (x, ()))
        bif (v2) then
          let v3 := (c20_6.val (x, ()))
          let v4 := (kl5 ((v3.fst.fst, v3.fst.snd.fst, (), (), 0, ()), v3.snd.fst, v3.fst.snd.snd.snd))
          bif (v4) then
            let v5 := (xl5 ((v3.fst.fst, v3.fst.snd.fst, (), (), 0, ()), v3.snd.fst, v3.fst.snd.snd.snd))
            let v6 := (k21 (v5.fst.fst, v5.fst.snd.fst, v5.snd))
            bif (v6) then
              bif (decide ((↑(List.length v5.snd.fst) : Int) ≤ 50)) then
                let v7 := (k22 (v5.fst.fst, ()))
                bif (v7) then
                  let v8 := (g21 (v5.fst.fst, v5.fst.snd.fst, v5.snd))
                  let v9 := (g22 (v5.fst.fst, ()))
                  let v10 := (kl11 ((v5.fst.fst, (), v8.fst, v8.snd.fst, v9.fst, 0, ()), v5.snd.fst, ()))
                  bif (v10) then
                    let v11 := (xl11 ((v5.fst.fst, (), v8.fst, v8.snd.fst, v9.fst, 0, ()), v5.snd.fst, ()))
                    bif (v11.fst.snd.snd.fst == v11.fst.snd.snd.snd.fst) then
                      bif (!v11.fst.snd.snd.fst) then
                        bif (feq FloatKind.f64 v11.fst.snd.fst.fst 0 && feq FloatKind.f64 v11.fst.snd.fst.snd 0) then
                          h ((true), ())
                        else
                          bif (v11.fst.snd.snd.1) then
                            let v12 := (k24 (v11.fst.snd.fst, v11.fst.fst, ()))
                            bif (v12) then
                              let v13 := (g24 (v11.fst.snd.fst, v11.fst.fst, ()))
                              h ((v13.1), ())
                            else
                              none
                          else
                            h ((false), ())
                      else
                        bif (v11.fst.snd.snd.1) then
                          let v12 := (k24 (v11.fst.snd.fst, v11.fst.fst, ()))
                          bif (v12) then
                            let v13 := (g24 (v11.fst.snd.fst, v11.fst.fst, ()))
                            h ((v13.1), ())
                          else
                            none
                        else
                          h ((false), ())
                    else
                      h ((false), ())
                  else
                    none
                else
                  none
              else
                let v7 := (g21 (v5.fst.fst, v5.fst.snd.fst, v5.snd))
                let v8 := (kl11 ((v5.fst.fst, (), v7.fst, v7.snd.fst, false, 0, ()), v5.snd.fst, ()))
                bif (v8) then
                  let v9 := (xl11 ((v5.fst.fst, (), v7.fst, v7.snd.fst, false, 0, ()), v5.snd.fst, ()))
                  bif (v9.fst.snd.snd.fst == v9.fst.snd.snd.snd.fst) then
                    bif (!v9.fst.snd.snd.fst) then
                      bif (feq FloatKind.f64 v9.fst.snd.fst.fst 0 && feq FloatKind.f64 v9.fst.snd.fst.snd 0) then
                        h ((true), ())
                      else
                        bif (v9.fst.snd.snd.1) then
                          let v10 := (k24 (v9.fst.snd.fst, v9.fst.fst, ()))
                          bif (v10) then
                            let v11 := (g24 (v9.fst.snd.fst, v9.fst.fst, ()))
                            h ((v11.1), ())
                          else
                            none
                        else
                          h ((false), ())
                    else
                      bif (v9.fst.snd.snd.1) then
                        let v10 := (k24 (v9.fst.snd.fst, v9.fst.fst, ()))
                        bif (v10) then
                          let v11 := (g24 (v9.fst.snd.fst, v9.fst.fst, ()))
                          h ((v11.1), ())
                        else
                          none
                      else
                        h ((false), ())
                  else
                    h ((false), ())
                else
                  none
            else
              none
          else
            none
        else
          none
  else
    none
theorem evN5 (k7 : Den A7 → Bool) (g7 : Den A7 → Den R7) (k20 : I20.den → Bool) (g20 : I20.den → O20.den) (k21 : Den A21 → Bool) (g21 : Den A21 → Den R21) (k22 : Den A22 → Bool) (g22 : Den A22 → Den R22) (k23 : Den A23 → Bool) (g23 : Den A23 → Den R23) (k24 : Den A24 → Bool) (g24 : Den A24 → Den R24) (kl5 : V5_5 → Bool) (xl5 : V5_5 → X5_5) (kl11 : V5_11 → Bool) (xl11 : V5_11 → X5_11) (p20 : I20.den → Bool) (Q20 : I20.den → O20.den → Prop) (e20 : Nonempty (Ch I20 O20 p20 Q20)) (h : Den R5 → Option Unit) (x : Den A5) : callN (Γ5 k7 g7 k20 g20 k21 g21 k22 g22 k23 g23 k24 g24 kl5 xl5 kl11 xl11) (N5 p20 Q20 e20) (bodyOf Try.f5) (decRH R5 h) (encA A5 x) [] = rN5 k7 g7 k20 g20 k21 g21 k22 g22 k23 g23 k24 g24 kl5 xl5 kl11 xl11 p20 Q20 e20 h x := by kernel_rfl

/- "loop.example/g03321/laws.FnSlackFirst" -/
noncomputable def N6 (pT25 : Den A25 → Bool) (QT25 : Den A25 → Den R25 → Prop) (eT25 : Nonempty (ChT A25 R25 pT25 QT25)) : NEnv := mkN [(25, fnFam A25 R25 pT25 QT25 eT25)] []
noncomputable def rN6 (k7 : Den A7 → Bool) (g7 : Den A7 → Den R7) (k25 : Den A25 → Bool) (g25 : Den A25 → Den R25) (k26 : Den A26 → Bool) (g26 : Den A26 → Den R26) (k27 : Den A27 → Bool) (g27 : Den A27 → Den R27) (k28 : Den A28 → Bool) (g28 : Den A28 → Den R28) (k29 : Den A29 → Bool) (g29 : Den A29 → Den R29) (pT25 : Den A25 → Bool) (QT25 : Den A25 → Den R25 → Prop) (eT25 : Nonempty (ChT A25 R25 pT25 QT25)) (h : Den R6 → Option Unit) (x : Den A6) : Option Unit :=
  let v0 := (k7 x)
  bif (v0) then
    let v1 := (g7 x)
    bif (v1.1) then
      h ((true), ())
    else
      allK fun (cT25_6 : ChT A25 R25 pT25 QT25) =>
        let v2 := (pT25 x)
        bif (v2) then
          let v3 := (cT25_6.val x)
          let v4 := (k26 v3)
          bif (v4) then
            let v5 := (k27 v3)
            bif (v5) then
              let v6 := (g26 v3)
              let v7 := (g27 v3)
              bif (!v6.snd.fst == v7.snd.fst) then
                h ((false), ())
              else
                bif (!v6.snd.fst) then
                  h ((v6.fst == 0), ())
                else
                  let v8 := (k28 (v3.fst, v3.snd.fst, v6.fst, ()))
                  bif (v8) then
                    let v9 := (g28 (v3.fst, v3.snd.fst, v6.fst, ()))
                    bif (!v9.snd.fst) then
                      h ((false), ())
                    else
                      let v10 := (k29 ((convF FloatKind.f32 FloatKind.f64 v9.fst.fst).snd, ()))
                      bif (v10) then
                        let v11 := (g29 ((convF FloatKind.f32 FloatKind.f64 v9.fst.fst).snd, ()))
                        bif (fgt FloatKind.f64 v11.fst (convF FloatKind.f32 FloatKind.f64 v3.snd.snd.snd.fst).snd) then
                          h ((false), ())
                        else
                          let v12 := (k29 ((convF FloatKind.f32 FloatKind.f64 v9.fst.snd).snd, ()))
                          bif (v12) then
                            let v13 := (g29 ((convF FloatKind.f32 FloatKind.f64 v9.fst.snd).snd, ()))
                            bif (fgt FloatKind.f64 v13.fst (convF FloatKind.f32 FloatKind.f64 v3.snd.snd.snd.fst).snd) then
                              h ((false), ())
                            else
                              let v14 := (IntKind.wrap IntKind.i64 (v6.fst - v3.snd.snd.fst))
                              bif (Int.tmod v14 60 != 0) then
                                h ((false), ())
                              else
                                bif (v6.fst == v3.snd.snd.fst) then
                                  h ((true), ())
                                else
                                  let v15 := (IntKind.wrap IntKind.i64 (v6.fst - 60))
                                  let v16 := (k28 (v3.fst, v3.snd.fst, v15, ()))
                                  bif (v16) then
                                    bif (decide (v6.fst > v3.snd.snd.fst)) then
                                      let v17 := (g28 (v3.fst, v3.snd.fst, v15, ()))
                                      bif (!v17.snd.fst) then
                                        h ((true), ())
                                      else
                                        let v18 := (k29 ((convF FloatKind.f32 FloatKind.f64 v17.fst.fst).snd, ()))
                                        bif (v18) then
                                          let v19 := (g29 ((convF FloatKind.f32 FloatKind.f64 v17.fst.fst).snd, ()))
                                          bif (fgt FloatKind.f64 v19.fst (convF FloatKind.f32 FloatKind.f64 v3.snd.snd.snd.fst).snd) then
                                            h ((true), ())
                                          else
                                            let v20 := (k29 ((convF FloatKind.f32 FloatKind.f64 v17.fst.snd).snd, ()))
                                            bif (v20) then
                                              let v21 := (g29 ((convF FloatKind.f32 FloatKind.f64 v17.fst.snd).snd, ()))
                                              h ((fgt FloatKind.f64 v21.fst (convF FloatKind.f32 FloatKind.f64 v3.snd.snd.snd.fst).snd), ())
                                            else
                                              none
                                        else
                                          none
                                    else
                                      h ((false), ())
                                  else
                                    none
                          else
                            none
                      else
                        none
                  else
                    none
            else
              none
          else
            none
        else
          none
  else
    none
theorem evN6 (k7 : Den A7 → Bool) (g7 : Den A7 → Den R7) (k25 : Den A25 → Bool) (g25 : Den A25 → Den R25) (k26 : Den A26 → Bool) (g26 : Den A26 → Den R26) (k27 : Den A27 → Bool) (g27 : Den A27 → Den R27) (k28 : Den A28 → Bool) (g28 : Den A28 → Den R28) (k29 : Den A29 → Bool) (g29 : Den A29 → Den R29) (pT25 : Den A25 → Bool) (QT25 : Den A25 → Den R25 → Prop) (eT25 : Nonempty (ChT A25 R25 pT25 QT25)) (h : Den R6 → Option Unit) (x : Den A6) : callN (Γ6 k7 g7 k25 g25 k26 g26 k27 g27 k28 g28 k29 g29) (N6 pT25 QT25 eT25) (bodyOf Try.f6) (decRH R6 h) (encA A6 x) [] = rN6 k7 g7 k25 g25 k26 g26 k27 g27 k28 g28 k29 g29 pT25 QT25 eT25 h x := by kernel_rfl

end Go.Proofs.Ytmmdjajebmihhaa.AM

/- Plainly: the draws of tides, places and times. Conditions: those that each lemma names. -/
namespace Go.Proofs.Ytmmdjajebmihhaa.AM
open Go Go.Proofs
set_option linter.unusedVariables false

theorem vector_ok (x : I44.den) (h : CurOk x.2.1) : Pst (F44 x) fun y => CurOk y.2.1 := by
  unfold F44 r44
  dsimp only
  refine pst_t (K80_ok _ (by (repeat ((try dsimp only); first | assumption | (with_reducible first | apply G75_cur | apply G80_cur | apply G106_cur | apply G66_cur | apply G45_cur))))) ?_
  refine pst_t (K80_ok _ (by (repeat ((try dsimp only); first | assumption | (with_reducible first | apply G75_cur | apply G80_cur | apply G106_cur | apply G66_cur | apply G45_cur))))) ?_
  exact pst_some (by (repeat ((try dsimp only); first | assumption | (with_reducible first | apply G75_cur | apply G80_cur | apply G106_cur | apply G66_cur | apply G45_cur))))
theorem K44_ok (x : I44.den) (h : CurOk x.2.1) : K44 x = true := pst_k (vector_ok x h)
theorem G44_cur (x : I44.den) (h : CurOk x.2.1) : CurOk (G44 x).2.1 := pst_g _ (vector_ok x h)

theorem vecOk_ok (x : Den A88) (h : x.1.length ≤ 1048576) : Pst (F88 x) fun _ => True := by
  have c0 := G30_cur (x, ()) h
  unfold F88 r88
  dsimp only
  refine pst_t (K30_ok (x, ()) h) ?_
  generalize G30 (x, ()) = A at *
  refine pst_t (K44_ok _ (by (repeat ((try dsimp only); first | assumption | (with_reducible first | apply G44_cur | apply G75_cur | apply G80_cur | apply G106_cur | apply G66_cur | apply G45_cur))))) ?_
  refine pst_t (K66_ok _ (by (repeat ((try dsimp only); first | assumption | (with_reducible first | apply G44_cur | apply G75_cur | apply G80_cur | apply G106_cur | apply G66_cur | apply G45_cur))))) ?_
  refine pst_b (fun _ => pst_some trivial) (fun _ => ?_)
  refine pst_b (fun _ => pst_some trivial) (fun _ => ?_)
  refine pst_b (fun _ => ?_) (fun _ => pst_some trivial)
  refine pst_t (K106_ok _ (by (repeat ((try dsimp only); first | assumption | (with_reducible first | apply G44_cur | apply G75_cur | apply G80_cur | apply G106_cur | apply G66_cur | apply G45_cur))))) ?_
  refine pst_t (K106_ok _ (by (repeat ((try dsimp only); first | assumption | (with_reducible first | apply G44_cur | apply G75_cur | apply G80_cur | apply G106_cur | apply G66_cur | apply G45_cur))))) ?_
  exact pst_some trivial
theorem K88_ok (x : Den A88) (h : x.1.length ≤ 1048576) : K88 x = true := pst_k (vecOk_ok x h)

/-! ## A tide -/

theorem flow_loop (v : V87_8) (h : CurOk v.2.1) (h0 : 0 ≤ v.1.2.2.2.2.2.1) : Pst (l87_8 v) fun y => CurOk y.2.1 ∧ y.1.2.2.2.1 = v.1.2.2.2.1 ∧ y.2.2.2.2.1 = v.2.2.2.2.1 := by
  refine iter_ind (q := q87_8 K66 G66 K45 G45) (fun u => CurOk u.2.1 ∧ u.1.2.2.2.1 = v.1.2.2.2.1 ∧ u.2.2.2.2.1 = v.2.2.2.2.1 ∧ 0 ≤ u.1.2.2.2.2.2.1)
    (fun _ r => Pst r fun y => CurOk y.2.1 ∧ y.1.2.2.2.1 = v.1.2.2.2.1 ∧ y.2.2.2.2.1 = v.2.2.2.2.1) (fun u => (13 - u.1.2.2.2.2.2.1).toNat) ?_ _ _ ⟨h, rfl, rfl, h0⟩ ?_
  · rintro ⟨⟨_, _, _, n, _, i, _⟩, ⟨c0, c1, c2, _⟩, _, _, l, st, _⟩ f ⟨g0, g1, g2, g3⟩ ih
    dsimp only at g0 g1 g2 g3 ih
    unfold q87_8
    dsimp only
    by_cases hk : i < 13
    · refine pst_t (by simpa using hk) ?_
      refine pst_t (K66_ok _ (by (repeat ((try dsimp only); first | assumption | (with_reducible first | apply G44_cur | apply G75_cur | apply G80_cur | apply G106_cur | apply G66_cur | apply G45_cur))))) ?_
      refine pst_t (K66_ok _ (by (repeat ((try dsimp only); first | assumption | (with_reducible first | apply G44_cur | apply G75_cur | apply G80_cur | apply G106_cur | apply G66_cur | apply G45_cur))))) ?_
      refine pst_t (by simp; omega) ?_
      have e : IntKind.i64.wrap (i + 1) = i + 1 := w64 (by omega) (by omega)
      refine ih _ ⟨by (repeat ((try dsimp only); first | assumption | (with_reducible first | apply G44_cur | apply G75_cur | apply G80_cur | apply G106_cur | apply G66_cur | apply G45_cur))), g1, g2, ?_⟩ ?_
      · show 0 ≤ IntKind.i64.wrap (i + 1); omega
      · show (13 - IntKind.i64.wrap (i + 1)).toNat < (13 - i).toNat; omega
    · have hd : decide (i < 13) = false := by simpa using hk
      rw [hd]
      exact pst_some ⟨g0, g1, g2⟩
  · exact Nat.lt_of_lt_of_le (m := 1000) (by omega) (Nat.le_add_left _ _)

theorem stations_loop (v : V87_3) (h : CurOk v.2.1) (h0 : 0 ≤ v.1.2.2.2.1) (h1 : (v.2.2.2.2.1.length : Int) + v.1.2.2.2.1 ≤ 3) (h2 : 1 ≤ (v.2.2.2.2.1.length : Int) + v.1.2.2.2.1) : Pst (l87_3 v) fun y => CurOk y.2.1 ∧ 1 ≤ y.2.2.2.2.1.length ∧ y.2.2.2.2.1.length ≤ 3 := by
  refine iter_ind (q := q87_3 K66 G66 K45 G45 kL87_8 xL87_8) (fun u => CurOk u.2.1 ∧ 0 ≤ u.1.2.2.2.1 ∧ (u.2.2.2.2.1.length : Int) + u.1.2.2.2.1 ≤ 3 ∧ 1 ≤ (u.2.2.2.2.1.length : Int) + u.1.2.2.2.1)
    (fun _ r => Pst r fun y => CurOk y.2.1 ∧ 1 ≤ y.2.2.2.2.1.length ∧ y.2.2.2.2.1.length ≤ 3) (fun u => u.1.2.2.2.1.toNat) ?_ _ _ ⟨h, h0, h1, h2⟩ ?_
  · rintro ⟨⟨_, _, _, n, _⟩, ⟨c0, c1, c2, _⟩, _, _, l, _⟩ f ⟨g0, g1, g2, g3⟩ ih
    dsimp only at g0 g1 g2 g3 ih
    unfold q87_3
    dsimp only
    by_cases hk : n > 0
    · refine pst_t (by simpa using hk) ?_
      refine pst_t (K66_ok _ (by (repeat ((try dsimp only); first | assumption | (with_reducible first | apply G44_cur | apply G75_cur | apply G80_cur | apply G106_cur | apply G66_cur | apply G45_cur))))) ?_
      refine pst_t (K66_ok _ (by (repeat ((try dsimp only); first | assumption | (with_reducible first | apply G44_cur | apply G75_cur | apply G80_cur | apply G106_cur | apply G66_cur | apply G45_cur))))) ?_
      have c5 : CurOk (G66 (((), 8001, ()), (G66 (((), 8001, ()), (c0, c1, c2, ()), ())).snd)).snd.fst := by (repeat ((try dsimp only); first | assumption | (with_reducible first | apply G44_cur | apply G75_cur | apply G80_cur | apply G106_cur | apply G66_cur | apply G45_cur)))
      generalize hA : G66 (((), 8001, ()), (c0, c1, c2, ()), ()) = A at *
      generalize hB : G66 (((), 8001, ()), A.snd) = B at *
      generalize (FloatKind.nearest FloatKind.f64 (IntKind.wrap IntKind.i64 (A.fst.fst - 4000)), FloatKind.nearest FloatKind.f64 (IntKind.wrap IntKind.i64 (B.fst.fst - 4000))) = at0
      have hl := flow_loop (((), (), (), n, (), 0, ()), B.snd.fst, ((), (), ()), ((), (), ()), l, (at0, (0, 0), (0, 0), (0, 0), (0, 0), (0, 0), (0, 0), (0, 0), (0, 0), (0, 0), (0, 0), (0, 0), (0, 0), (0, 0), ()), ()) c5 (Int.le_refl 0)
      obtain ⟨y, hy, q1, q2, q3⟩ := hl
      have e1 : kL87_8 (((), (), (), n, (), 0, ()), B.snd.fst, ((), (), ()), ((), (), ()), l, (at0, (0, 0), (0, 0), (0, 0), (0, 0), (0, 0), (0, 0), (0, 0), (0, 0), (0, 0), (0, 0), (0, 0), (0, 0), (0, 0), ()), ()) = true := by unfold kL87_8; rw [hy]; rfl
      have e2 : xL87_8 (((), (), (), n, (), 0, ()), B.snd.fst, ((), (), ()), ((), (), ()), l, (at0, (0, 0), (0, 0), (0, 0), (0, 0), (0, 0), (0, 0), (0, 0), (0, 0), (0, 0), (0, 0), (0, 0), (0, 0), (0, 0), ()), ()) = y := by unfold xL87_8; rw [hy]; rfl
      refine pst_t e1 ?_
      rw [e2]
      obtain ⟨⟨_, _, _, n', _, _⟩, c, _, _, l', st, _⟩ := y
      dsimp only at q1 q2 q3
      subst q2 q3
      dsimp only
      have e : IntKind.i64.wrap (n' - 1) = n' - 1 := w64 (by omega) (by omega)
      refine pst_t (K45_ok _ (by (repeat ((try dsimp only); first | assumption | (with_reducible first | apply G44_cur | apply G75_cur | apply G80_cur | apply G106_cur | apply G66_cur | apply G45_cur))))) ?_
      refine pst_b (fun _ => ?_) (fun _ => ?_)
      all_goals
        refine pst_t (capOk_of (by simp only [List.length_set, List.length_replicate]; omega)) ?_
        refine ih _ ⟨by (repeat ((try dsimp only); first | assumption | (with_reducible first | apply G44_cur | apply G75_cur | apply G80_cur | apply G106_cur | apply G66_cur | apply G45_cur))), ?_, ?_, ?_⟩ ?_
        · show 0 ≤ IntKind.i64.wrap (n' - 1); omega
        · simp only [e, List.length_append, List.length_set, List.length_replicate]; omega
        · simp only [e, List.length_append, List.length_set, List.length_replicate]; omega
        · show (IntKind.i64.wrap (n' - 1)).toNat < n'.toNat; omega
    · have hd : decide (n > 0) = false := by simpa using hk
      rw [hd]
      exact pst_some ⟨g0, by show 1 ≤ l.length; omega, by show l.length ≤ 3; omega⟩
  · unfold b87_3
    have := h0
    omega

theorem highs_loop (v : V87_17) (h : CurOk v.2.1) (h0 : 0 ≤ v.1.2.2.2.2.1) (h1 : (v.2.2.2.2.2.1.length : Int) + v.1.2.2.2.2.1 ≤ 5) (h2 : 1 ≤ (v.2.2.2.2.2.1.length : Int) + v.1.2.2.2.2.1) : Pst (l87_17 v) fun y => CurOk y.2.1 ∧ y.2.2.2.2.1 = v.2.2.2.2.1 ∧ 1 ≤ y.2.2.2.2.2.1.length ∧ y.2.2.2.2.2.1.length ≤ 5 := by
  refine iter_ind (q := q87_17 K66 G66 K45 G45) (fun u => CurOk u.2.1 ∧ u.2.2.2.2.1 = v.2.2.2.2.1 ∧ 0 ≤ u.1.2.2.2.2.1 ∧ (u.2.2.2.2.2.1.length : Int) + u.1.2.2.2.2.1 ≤ 5 ∧ 1 ≤ (u.2.2.2.2.2.1.length : Int) + u.1.2.2.2.2.1)
    (fun _ r => Pst r fun y => CurOk y.2.1 ∧ y.2.2.2.2.1 = v.2.2.2.2.1 ∧ 1 ≤ y.2.2.2.2.2.1.length ∧ y.2.2.2.2.2.1.length ≤ 5) (fun u => u.1.2.2.2.2.1.toNat) ?_ _ _ ⟨h, rfl, h0, h1, h2⟩ ?_
  · rintro ⟨⟨_, _, _, t, n, _⟩, ⟨c0, c1, c2, _⟩, _, _, l, hs, _⟩ f ⟨g0, g1, g2, g3, g4⟩ ih
    dsimp only at g0 g1 g2 g3 g4 ih
    unfold q87_17
    dsimp only
    by_cases hk : n > 0
    · refine pst_t (by simpa using hk) ?_
      refine pst_t (capOk_of (by simp only [List.length_set, List.length_replicate]; omega)) ?_
      refine pst_t (K66_ok _ (by (repeat ((try dsimp only); first | assumption | (with_reducible first | apply G44_cur | apply G75_cur | apply G80_cur | apply G106_cur | apply G66_cur | apply G45_cur))))) ?_
      refine pst_t (K66_ok _ (by (repeat ((try dsimp only); first | assumption | (with_reducible first | apply G44_cur | apply G75_cur | apply G80_cur | apply G106_cur | apply G66_cur | apply G45_cur))))) ?_
      have e : IntKind.i64.wrap (n - 1) = n - 1 := w64 (by omega) (by omega)
      refine ih _ ⟨by (repeat ((try dsimp only); first | assumption | (with_reducible first | apply G44_cur | apply G75_cur | apply G80_cur | apply G106_cur | apply G66_cur | apply G45_cur))), g1, ?_, ?_, ?_⟩ ?_
      · show 0 ≤ IntKind.i64.wrap (n - 1); omega
      · simp only [e, List.length_append, List.length_set, List.length_replicate]; omega
      · simp only [e, List.length_append, List.length_set, List.length_replicate]; omega
      · show (IntKind.i64.wrap (n - 1)).toNat < n.toNat; omega
    · have hd : decide (n > 0) = false := by simpa using hk
      rw [hd]
      exact pst_some ⟨g0, g1, by show 1 ≤ hs.length; omega, by show hs.length ≤ 5; omega⟩
  · unfold b87_17
    have := h0
    omega

theorem one_plus (d n : Int) (hd : 0 ≤ d ∧ d < n) (hn : n ≤ 100) : 1 ≤ IntKind.i64.wrap (1 + d) ∧ IntKind.i64.wrap (1 + d) ≤ n := by
  rw [w64 (by omega) (by omega)]
  omega

theorem tide_ok (x : I87.den) (h : CurOk x.2.1) : Pst (F87 x) fun y => CurOk y.2.1 ∧ (1 ≤ y.2.2.1.length ∧ y.2.2.1.length ≤ 3) ∧ 1 ≤ y.2.2.2.1.length ∧ y.2.2.2.1.length ≤ 5 := by
  unfold F87 r87
  dsimp only
  refine pst_t (K66_ok _ (by (repeat ((try dsimp only); first | assumption | (with_reducible first | apply G44_cur | apply G75_cur | apply G80_cur | apply G106_cur | apply G66_cur | apply G45_cur))))) ?_
  have b1 := one_plus _ 3 (below_bd 3 x.2.1 h (by decide)) (by decide)
  have c1 : CurOk (G66 (((), 3, ()), x.snd)).snd.fst := by (repeat ((try dsimp only); first | assumption | (with_reducible first | apply G44_cur | apply G75_cur | apply G80_cur | apply G106_cur | apply G66_cur | apply G45_cur)))
  have b1 : 1 ≤ IntKind.i64.wrap (1 + (G66 (((), 3, ()), x.snd)).fst.fst) ∧ IntKind.i64.wrap (1 + (G66 (((), 3, ()), x.snd)).fst.fst) ≤ 3 := b1
  generalize G66 (((), 3, ()), x.snd) = A at *
  generalize IntKind.i64.wrap (1 + A.fst.fst) = n at *
  obtain ⟨y, hy, q1, q2, q3⟩ := stations_loop (((), (), (), n, ()), A.snd.fst, ((), (), ()), ((), (), ()), [], ()) c1 (by show 0 ≤ n; omega) (by show (0 : Int) + n ≤ 3; omega) (by show 1 ≤ (0 : Int) + n; omega)
  have e1 : kL87_3 (((), (), (), n, ()), A.snd.fst, ((), (), ()), ((), (), ()), [], ()) = true := by unfold kL87_3; rw [hy]; rfl
  have e2 : xL87_3 (((), (), (), n, ()), A.snd.fst, ((), (), ()), ((), (), ()), [], ()) = y := by unfold xL87_3; rw [hy]; rfl
  refine pst_t e1 ?_
  rw [e2]
  obtain ⟨_, c, _, _, l, _⟩ := y
  dsimp only at q1 q2 q3 ⊢
  refine pst_t (K66_ok _ (by (repeat ((try dsimp only); first | assumption | (with_reducible first | apply G44_cur | apply G75_cur | apply G80_cur | apply G106_cur | apply G66_cur | apply G45_cur))))) ?_
  have c2 : CurOk (G66 (((), 30000, ()), c, ())).snd.fst := by (repeat ((try dsimp only); first | assumption | (with_reducible first | apply G44_cur | apply G75_cur | apply G80_cur | apply G106_cur | apply G66_cur | apply G45_cur)))
  generalize G66 (((), 30000, ()), c, ()) = B at *
  refine pst_t (K66_ok _ (by (repeat ((try dsimp only); first | assumption | (with_reducible first | apply G44_cur | apply G75_cur | apply G80_cur | apply G106_cur | apply G66_cur | apply G45_cur))))) ?_
  have b2 := one_plus _ 5 (below_bd 5 B.2.1 c2 (by decide)) (by decide)
  have c3 : CurOk (G66 (((), 5, ()), B.snd)).snd.fst := by (repeat ((try dsimp only); first | assumption | (with_reducible first | apply G44_cur | apply G75_cur | apply G80_cur | apply G106_cur | apply G66_cur | apply G45_cur)))
  have b2 : 1 ≤ IntKind.i64.wrap (1 + (G66 (((), 5, ()), B.snd)).fst.fst) ∧ IntKind.i64.wrap (1 + (G66 (((), 5, ()), B.snd)).fst.fst) ≤ 5 := b2
  generalize G66 (((), 5, ()), B.snd) = C at *
  generalize IntKind.i64.wrap (1 + C.fst.fst) = m at *
  obtain ⟨y, hy, r1, r2, r3, r4⟩ := highs_loop (((), (), (), B.fst.fst, m, ()), C.snd.fst, ((), (), ()), ((), (), ()), l, [], ()) c3 (by show 0 ≤ m; omega) (by show (0 : Int) + m ≤ 5; omega) (by show 1 ≤ (0 : Int) + m; omega)
  have e3 : kL87_17 (((), (), (), B.fst.fst, m, ()), C.snd.fst, ((), (), ()), ((), (), ()), l, [], ()) = true := by unfold kL87_17; rw [hy]; rfl
  have e4 : xL87_17 (((), (), (), B.fst.fst, m, ()), C.snd.fst, ((), (), ()), ((), (), ()), l, [], ()) = y := by unfold xL87_17; rw [hy]; rfl
  refine pst_t e3 ?_
  rw [e4]
  obtain ⟨_, c', _, _, l', hs, _⟩ := y
  dsimp only at r1 r2 r3 r4 ⊢
  subst r2
  exact pst_some ⟨r1, ⟨q2, q3⟩, r3, r4⟩
theorem K87_ok (x : I87.den) (h : CurOk x.2.1) : K87 x = true := pst_k (tide_ok x h)
theorem G87_ok (x : I87.den) (h : CurOk x.2.1) : CurOk (G87 x).2.1 ∧ (1 ≤ (G87 x).2.2.1.length ∧ (G87 x).2.2.1.length ≤ 3) ∧ 1 ≤ (G87 x).2.2.2.1.length ∧ (G87 x).2.2.2.1.length ≤ 5 := pst_g _ (tide_ok x h)

theorem twenty (d : Int) (h : 0 ≤ d ∧ d < 2) : IntKind.i64.wrap (20 + d) ≤ 21 := by
  rw [w64 (by omega) (by omega)]
  omega

theorem longer_loop (v : V58_15) (h : CurOk v.2.1) (h1 : 1 ≤ v.2.2.2.2.1.length) (h2 : v.2.2.2.2.1.length ≤ 21) : Pst (l58_15 v) fun y => CurOk y.2.1 ∧ y.2.2.2.2.1.length ≤ 21 ∧ y.2.2.2.2.2.1 = v.2.2.2.2.2.1 := by
  refine iter_ind (q := q58_15 K87 G87 K66 G66 K89 G89 K88 G88 K90 G90 K75 G75) (fun u => CurOk u.2.1 ∧ 1 ≤ u.2.2.2.2.1.length ∧ u.2.2.2.2.1.length ≤ 21 ∧ u.2.2.2.2.2.1 = v.2.2.2.2.2.1)
    (fun _ r => Pst r fun y => CurOk y.2.1 ∧ y.2.2.2.2.1.length ≤ 21 ∧ y.2.2.2.2.2.1 = v.2.2.2.2.2.1) (fun u => 21 - u.2.2.2.2.1.length) ?_ _ _ ⟨h, h1, h2, rfl⟩ ?_
  · rintro ⟨_, ⟨c0, c1, c2, _⟩, _, _, l, hs, _⟩ f ⟨g0, g1, g2, g3⟩ ih
    dsimp only at g0 g1 g2 g3 ih
    unfold q58_15
    dsimp only
    refine pst_t (K66_ok _ (by (repeat ((try dsimp only); first | assumption | (with_reducible first | apply G44_cur | apply G75_cur | apply G80_cur | apply G106_cur | apply G66_cur | apply G45_cur))))) ?_
    have b2 := below_bd 2 (c0, c1, c2, ()) g0 (by decide)
    have e : IntKind.i64.wrap (20 + (G66 (((), 2, ()), (c0, c1, c2, ()), ())).fst.fst) ≤ 21 := twenty _ b2
    refine pst_b (fun hb => ?_) (fun _ => pst_some ⟨by (repeat ((try dsimp only); first | assumption | (with_reducible first | apply G44_cur | apply G75_cur | apply G80_cur | apply G106_cur | apply G66_cur | apply G45_cur))), g2, g3⟩)
    have hb : (l.length : Int) < IntKind.i64.wrap (20 + (G66 (((), 2, ()), (c0, c1, c2, ()), ())).fst.fst) := by simpa using hb
    refine pst_t (by simp; omega) ?_
    refine pst_t (capOk_of (by simp only [List.length_set, List.length_replicate]; omega)) ?_
    refine ih _ ⟨by (repeat ((try dsimp only); first | assumption | (with_reducible first | apply G44_cur | apply G75_cur | apply G80_cur | apply G106_cur | apply G66_cur | apply G45_cur))), ?_, ?_, g3⟩ ?_ <;> simp only [List.length_append, List.length_set, List.length_replicate] <;> omega
  · unfold b58_15
    omega

def p58 (x : I58.den) : Bool := curB x.2.1
/-- What a drawn tide is. -/
def TideG (t : Den S48) : Prop := t.1.length ≤ 21 ∧ t.2.1.length ≤ 6
def Q58 (x : I58.den) (y : O58.den) : Prop := CurOk y.2.1 ∧ TideG y.1.1
theorem e58 : Nonempty (Ch I58 O58 p58 Q58) := ⟨⟨fun _ => ((([], [], ()), ()), (curZ, ())), fun _ _ => ⟨curZ_ok, by show 0 ≤ 21; decide, by show 0 ≤ 6; decide⟩⟩⟩

theorem fam58 : FamOK Try.prog 58 (sgFam true I58 O58 p58 Q58 e58) := sgN_ok env58 (N := N58 p90 Q90 e90) (mkN_ok ⟨fam90, trivial⟩) is58 noNLoops fun x hx k hk => by
  have hk : ∀ y : O58.den, CurOk y.2.1 → y.1.1.1.length ≤ 21 → y.1.1.2.1.length ≤ 6 → k y = some () := fun y h1 h2 h3 => hk y ⟨h1, h2, h3⟩
  have h : CurOk x.2.1 := curB_iff.1 hx
  refine Eq.trans (evN58 _ _ _ _ _ _ _ _ _ _ _ _ _ _ _ _ _ k x) ?_
  unfold rN58
  dsimp only
  haveI := e90
  have t0 := G87_ok (((), ()), x.snd) h
  refine all_t (K87_ok _ h) ?_
  generalize G87 (((), ()), x.snd) = T at *
  obtain ⟨_, c, l, hs, _⟩ := T
  dsimp only at t0 ⊢
  obtain ⟨t1, ⟨t2, t3⟩, t4, t5⟩ := t0
  refine all_t (K66_ok _ (by (repeat ((try dsimp only); first | assumption | (with_reducible first | apply G44_cur | apply G75_cur | apply G80_cur | apply G106_cur | apply G66_cur | apply G45_cur))))) ?_
  have b1 := below_bd (l.length : Int) c t1 (by omega)
  have c1 : CurOk (G66 (((), (l.length : Int), ()), c, ())).snd.fst := by (repeat ((try dsimp only); first | assumption | (with_reducible first | apply G44_cur | apply G75_cur | apply G80_cur | apply G106_cur | apply G66_cur | apply G45_cur)))
  generalize G66 (((), (l.length : Int), ()), c, ()) = A at *
  obtain ⟨⟨i, _⟩, cA, _⟩ := A
  dsimp only at b1 c1 ⊢
  refine all_t (K66_ok _ (by (repeat ((try dsimp only); first | assumption | (with_reducible first | apply G44_cur | apply G75_cur | apply G80_cur | apply G106_cur | apply G66_cur | apply G45_cur))))) ?_
  have c2 : CurOk (G66 (((), 24, ()), cA, ())).snd.fst := by (repeat ((try dsimp only); first | assumption | (with_reducible first | apply G44_cur | apply G75_cur | apply G80_cur | apply G106_cur | apply G66_cur | apply G45_cur)))
  generalize G66 (((), 24, ()), cA, ()) = B at *
  have din : (decide (0 ≤ i) && decide (i < (l.length : Int))) = true := by simp only [Bool.and_eq_true, decide_eq_true_eq]; exact b1
  refine all_b (fun _ => ?_) (fun _ => ?_)
  · refine all_t (K89_ok _ c2) ?_
    have c3 := G89_cur (((), ()), B.snd) c2
    generalize G89 (((), ()), B.snd) = C at *
    refine all_t (K88_ok _ (by simp)) ?_
    refine all_t din ?_
    exact hk _ c3 (by simp only [List.length_set]; omega) (by show hs.length ≤ 6; omega)
  refine all_b (fun _ => ?_) (fun _ => ?_)
  · refine allK_intro fun g => ?_
    refine all_t (K66_ok _ (by (repeat ((try dsimp only); first | assumption | (with_reducible first | apply G44_cur | apply G75_cur | apply G80_cur | apply G106_cur | apply G66_cur | apply G45_cur))))) ?_
    have b4 := below_bd 13 B.2.1 c2 (by decide)
    have b4 : 0 ≤ (G66 (((), 13, ()), B.snd)).fst.fst ∧ (G66 (((), 13, ()), B.snd)).fst.fst < 13 := b4
    have c4 : CurOk (G66 (((), 13, ()), B.snd)).snd.fst := by (repeat ((try dsimp only); first | assumption | (with_reducible first | apply G44_cur | apply G75_cur | apply G80_cur | apply G106_cur | apply G66_cur | apply G45_cur)))
    generalize G66 (((), 13, ()), B.snd) = D at *
    have hp : p90 (((), ()), D.snd) = true := curB_iff.2 c4
    have q1 : CurOk (g.val (((), ()), D.snd)).2.1 := g.2 _ hp
    refine all_t hp ?_
    generalize g.val (((), ()), D.snd) = C at *
    refine all_t din ?_
    refine all_t (by simp only [Bool.and_eq_true, decide_eq_true_eq]; exact b4) ?_
    exact hk _ q1 (by simp only [List.length_set]; omega) (by show hs.length ≤ 6; omega)
  refine all_b (fun _ => ?_) (fun _ => ?_)
  · refine all_t (K66_ok _ (by (repeat ((try dsimp only); first | assumption | (with_reducible first | apply G44_cur | apply G75_cur | apply G80_cur | apply G106_cur | apply G66_cur | apply G45_cur))))) ?_
    have b5 := below_bd (hs.length : Int) B.2.1 c2 (by omega)
    have b5 : 0 ≤ (G66 (((), (hs.length : Int), ()), B.snd)).fst.fst ∧ (G66 (((), (hs.length : Int), ()), B.snd)).fst.fst < (hs.length : Int) := b5
    have c5 : CurOk (G66 (((), (hs.length : Int), ()), B.snd)).snd.fst := by (repeat ((try dsimp only); first | assumption | (with_reducible first | apply G44_cur | apply G75_cur | apply G80_cur | apply G106_cur | apply G66_cur | apply G45_cur)))
    generalize G66 (((), (hs.length : Int), ()), B.snd) = D at *
    refine all_t (K75_ok _ (by (repeat ((try dsimp only); first | assumption | (with_reducible first | apply G44_cur | apply G75_cur | apply G80_cur | apply G106_cur | apply G66_cur | apply G45_cur))))) ?_
    refine all_t (by simp only [Bool.and_eq_true, decide_eq_true_eq]; exact b5) ?_
    exact hk _ (by (repeat ((try dsimp only); first | assumption | (with_reducible first | apply G44_cur | apply G75_cur | apply G80_cur | apply G106_cur | apply G66_cur | apply G45_cur)))) (by show l.length ≤ 21; omega) (by simp only [List.length_set]; omega)
  refine all_b (fun _ => hk _ c2 (by show l.length ≤ 21; omega) (by show 0 ≤ 6; decide)) (fun _ => ?_)
  refine all_b (fun _ => hk _ c2 (by show 0 ≤ 21; decide) (by show hs.length ≤ 6; omega)) (fun _ => ?_)
  refine all_b (fun _ => ?_) (fun _ => ?_)
  · obtain ⟨y, hy, r1, r2, r3⟩ := longer_loop (((), (), (), ()), B.snd.fst, ((), (), ()), ((), (), ()), l, hs, ()) c2 t2 (by show l.length ≤ 21; omega)
    have e3 : kL58_15 (((), (), (), ()), B.snd.fst, ((), (), ()), ((), (), ()), l, hs, ()) = true := by unfold kL58_15; rw [hy]; rfl
    have e4 : xL58_15 (((), (), (), ()), B.snd.fst, ((), (), ()), ((), (), ()), l, hs, ()) = y := by unfold xL58_15; rw [hy]; rfl
    refine all_t e3 ?_
    rw [e4]
    obtain ⟨_, c', _, _, l', hs', _⟩ := y
    dsimp only at r1 r2 r3 ⊢
    subst r3
    exact hk _ r1 r2 (by show hs'.length ≤ 6; omega)
  refine all_b (fun _ => ?_) (fun _ => hk _ c2 (by show l.length ≤ 21; omega) (by show hs.length ≤ 6; omega))
  have e5 : IntKind.i64.wrap ((hs.length : Int) - 1) = (hs.length : Int) - 1 := w64 (by omega) (by omega)
  rw [e5]
  refine all_t (by simp only [Bool.and_eq_true, decide_eq_true_eq]; omega) ?_
  refine all_t (capOk_of (by simp only [List.length_set, List.length_replicate]; omega)) ?_
  exact hk _ c2 (by show l.length ≤ 21; omega) (by simp only [List.length_append, List.length_set, List.length_replicate]; omega)

/-! ## A place, a time -/

theorem place_ok (x : I59.den) (h : CurOk x.2.1) : Pst (F59 x) fun y => CurOk y.2.1 := by
  unfold F59 r59
  dsimp only
  refine pst_b (fun h0 => ?_) (fun _ => ?_)
  · have h0 : (x.1.2.1.1.length : Int) > 0 := by simpa using h0
    refine pst_t (K45_ok _ (by (repeat ((try dsimp only); first | assumption | (with_reducible first | apply G44_cur | apply G75_cur | apply G80_cur | apply G106_cur | apply G66_cur | apply G45_cur))))) ?_
    have c1 : CurOk (G45 (((), 4, ()), x.snd)).snd.fst := by (repeat ((try dsimp only); first | assumption | (with_reducible first | apply G44_cur | apply G75_cur | apply G80_cur | apply G106_cur | apply G66_cur | apply G45_cur)))
    generalize G45 (((), 4, ()), x.snd) = A at *
    refine pst_b (fun _ => ?_) (fun _ => ?_)
    · refine pst_t (K66_ok _ (by (repeat ((try dsimp only); first | assumption | (with_reducible first | apply G44_cur | apply G75_cur | apply G80_cur | apply G106_cur | apply G66_cur | apply G45_cur))))) ?_
      have b1 := below_bd (x.1.2.1.1.length : Int) A.2.1 c1 (by omega)
      refine pst_t (by simp only [Bool.and_eq_true, decide_eq_true_eq]; exact b1) ?_
      exact pst_some (by (repeat ((try dsimp only); first | assumption | (with_reducible first | apply G44_cur | apply G75_cur | apply G80_cur | apply G106_cur | apply G66_cur | apply G45_cur))))
    · refine pst_t (K44_ok _ (by (repeat ((try dsimp only); first | assumption | (with_reducible first | apply G44_cur | apply G75_cur | apply G80_cur | apply G106_cur | apply G66_cur | apply G45_cur))))) ?_
      exact pst_some (by (repeat ((try dsimp only); first | assumption | (with_reducible first | apply G44_cur | apply G75_cur | apply G80_cur | apply G106_cur | apply G66_cur | apply G45_cur))))
  · refine pst_t (K44_ok _ (by (repeat ((try dsimp only); first | assumption | (with_reducible first | apply G44_cur | apply G75_cur | apply G80_cur | apply G106_cur | apply G66_cur | apply G45_cur))))) ?_
    exact pst_some (by (repeat ((try dsimp only); first | assumption | (with_reducible first | apply G44_cur | apply G75_cur | apply G80_cur | apply G106_cur | apply G66_cur | apply G45_cur))))
theorem K59_ok (x : I59.den) (h : CurOk x.2.1) : K59 x = true := pst_k (place_ok x h)
theorem G59_cur (x : I59.den) (h : CurOk x.2.1) : CurOk (G59 x).2.1 := pst_g _ (place_ok x h)

/-- A number that an int holds. -/
def inI (n : Int) : Prop := -9223372036854775808 ≤ n ∧ n ≤ 9223372036854775807
theorem wrap_inI (n : Int) : inI (IntKind.i64.wrap n) := by
  unfold inI
  rw [IntKind.wrap_i64]
  omega
theorem five_inI {n : Int} (h : n ∈ ((((((List.replicate 5 (zero (Ty.int IntKind.i64))).set 0 (-1)).set 1 0).set 2 10000000).set 3 10000001).set 4 9223372036854775807 : List Int)) : inI n := by
  have e : ((((((List.replicate 5 (zero (Ty.int IntKind.i64))).set 0 (-1)).set 1 0).set 2 10000000).set 3 10000001).set 4 9223372036854775807 : List Int) = [-1, 0, 10000000, 10000001, 9223372036854775807] := rfl
  rw [e] at h
  simp only [List.mem_cons, List.not_mem_nil, or_false] at h
  unfold inI
  omega
theorem moment_ok (x : I60.den) (h : CurOk x.2.1) : Pst (F60 x) fun y => CurOk y.2.1 ∧ inI y.1.1 := by
  unfold F60 r60
  dsimp only
  refine pst_b (fun _ => ?_) (fun h0 => ?_)
  · refine pst_t (K76_ok _ h (by simp)) ?_
    exact pst_some ⟨G76_cur _ h (by simp), five_inI (G76_ok (((), (), ()), x.snd.fst, ((((((List.replicate 5 (zero (Ty.int IntKind.i64))).set 0 (-1)).set 1 0).set 2 10000000).set 3 10000001).set 4 9223372036854775807), ()) h (by simp)).2⟩
  · have h0 : ¬ x.1.2.1.2.1.length = 0 := by intro e; rw [e] at h0; simp at h0
    refine pst_t (K45_ok _ (by (repeat ((try dsimp only); first | assumption | (with_reducible first | apply G59_cur | apply G44_cur | apply G75_cur | apply G80_cur | apply G106_cur | apply G66_cur | apply G45_cur))))) ?_
    have c1 : CurOk (G45 (((), 15, ()), x.snd)).snd.fst := by (repeat ((try dsimp only); first | assumption | (with_reducible first | apply G59_cur | apply G44_cur | apply G75_cur | apply G80_cur | apply G106_cur | apply G66_cur | apply G45_cur)))
    generalize G45 (((), 15, ()), x.snd) = A at *
    refine pst_b (fun _ => ?_) (fun _ => ?_)
    · refine pst_t (K76_ok _ c1 (by simp)) ?_
      exact pst_some ⟨G76_cur _ c1 (by simp), five_inI (G76_ok (((), (), ()), A.snd.fst, ((((((List.replicate 5 (zero (Ty.int IntKind.i64))).set 0 (-1)).set 1 0).set 2 10000000).set 3 10000001).set 4 9223372036854775807), ()) c1 (by simp)).2⟩
    · refine pst_t (K66_ok _ (by (repeat ((try dsimp only); first | assumption | (with_reducible first | apply G59_cur | apply G44_cur | apply G75_cur | apply G80_cur | apply G106_cur | apply G66_cur | apply G45_cur))))) ?_
      have b1 := below_bd (x.1.2.1.2.1.length : Int) A.2.1 c1 (by omega)
      refine pst_t (by simp only [Bool.and_eq_true, decide_eq_true_eq]; exact b1) ?_
      refine pst_t (K66_ok _ (by (repeat ((try dsimp only); first | assumption | (with_reducible first | apply G59_cur | apply G44_cur | apply G75_cur | apply G80_cur | apply G106_cur | apply G66_cur | apply G45_cur))))) ?_
      refine pst_b (fun _ => ?_) (fun _ => ?_)
      · refine pst_t (K66_ok _ (by (repeat ((try dsimp only); first | assumption | (with_reducible first | apply G59_cur | apply G44_cur | apply G75_cur | apply G80_cur | apply G106_cur | apply G66_cur | apply G45_cur))))) ?_
        exact pst_some ⟨by (repeat ((try dsimp only); first | assumption | (with_reducible first | apply G59_cur | apply G44_cur | apply G75_cur | apply G80_cur | apply G106_cur | apply G66_cur | apply G45_cur))), wrap_inI _⟩
      · refine pst_b (fun _ => pst_some ⟨by (repeat ((try dsimp only); first | assumption | (with_reducible first | apply G59_cur | apply G44_cur | apply G75_cur | apply G80_cur | apply G106_cur | apply G66_cur | apply G45_cur))), wrap_inI _⟩) (fun _ => ?_)
        refine pst_t (K66_ok _ (by (repeat ((try dsimp only); first | assumption | (with_reducible first | apply G59_cur | apply G44_cur | apply G75_cur | apply G80_cur | apply G106_cur | apply G66_cur | apply G45_cur))))) ?_
        exact pst_some ⟨by (repeat ((try dsimp only); first | assumption | (with_reducible first | apply G59_cur | apply G44_cur | apply G75_cur | apply G80_cur | apply G106_cur | apply G66_cur | apply G45_cur))), wrap_inI _⟩
theorem K60_ok (x : I60.den) (h : CurOk x.2.1) : K60 x = true := pst_k (moment_ok x h)
theorem G60_ok (x : I60.den) (h : CurOk x.2.1) : CurOk (G60 x).2.1 ∧ inI (G60 x).1.1 := pst_g _ (moment_ok x h)
theorem G60_cur (x : I60.den) (h : CurOk x.2.1) : CurOk (G60 x).2.1 := (G60_ok x h).1

end Go.Proofs.Ytmmdjajebmihhaa.AM

/- Plainly: the draws of legs; what the laws FnTideStill and FnSlackFirst are handed. Conditions: those that each lemma names. -/
namespace Go.Proofs.Ytmmdjajebmihhaa.AM
open Go Go.Proofs
set_option linter.unusedVariables false

theorem degrees_ok (x : I46.den) (h : CurOk x.2.1) : Pst (F46 x) fun y => CurOk y.2.1 := by
  unfold F46 r46
  dsimp only
  refine pst_t (K45_ok _ (by (repeat ((try dsimp only); first | assumption | (with_reducible first | apply G60_cur | apply G59_cur | apply G44_cur | apply G75_cur | apply G80_cur | apply G106_cur | apply G66_cur | apply G45_cur))))) ?_
  refine pst_b (fun _ => ?_) (fun _ => ?_)
  · refine pst_t (K75_ok _ (by (repeat ((try dsimp only); first | assumption | (with_reducible first | apply G60_cur | apply G59_cur | apply G44_cur | apply G75_cur | apply G80_cur | apply G106_cur | apply G66_cur | apply G45_cur))))) ?_
    exact pst_some (by (repeat ((try dsimp only); first | assumption | (with_reducible first | apply G60_cur | apply G59_cur | apply G44_cur | apply G75_cur | apply G80_cur | apply G106_cur | apply G66_cur | apply G45_cur))))
  · refine pst_t (K66_ok _ (by (repeat ((try dsimp only); first | assumption | (with_reducible first | apply G60_cur | apply G59_cur | apply G44_cur | apply G75_cur | apply G80_cur | apply G106_cur | apply G66_cur | apply G45_cur))))) ?_
    exact pst_some (by (repeat ((try dsimp only); first | assumption | (with_reducible first | apply G60_cur | apply G59_cur | apply G44_cur | apply G75_cur | apply G80_cur | apply G106_cur | apply G66_cur | apply G45_cur))))
theorem K46_ok (x : I46.den) (h : CurOk x.2.1) : K46 x = true := pst_k (degrees_ok x h)
theorem G46_cur (x : I46.den) (h : CurOk x.2.1) : CurOk (G46 x).2.1 := pst_g _ (degrees_ok x h)

def p108 (x : I108.den) : Bool := curB x.2.1
def Q108 (x : I108.den) (y : O108.den) : Prop := CurOk y.2.1
theorem e108 : Nonempty (Ch I108 O108 p108 Q108) := ⟨⟨fun _ => ((0, ()), (curZ, ())), fun _ _ => curZ_ok⟩⟩
theorem fam108 : FamOK Try.prog 108 (sgFam true I108 O108 p108 Q108 e108) := sgN_ok env108 (N := N108 p107 Q107 e107) (mkN_ok ⟨fam107, trivial⟩) is108 noNLoops fun x hx k hk => by
  have hk : ∀ y : O108.den, CurOk y.2.1 → k y = some () := hk
  have h : CurOk x.2.1 := curB_iff.1 hx
  refine Eq.trans (evN108 _ _ _ _ _ _ _ k x) ?_
  unfold rN108
  dsimp only
  haveI := e107
  refine all_t (K66_ok _ (by (repeat ((try dsimp only); first | assumption | (with_reducible first | apply G46_cur | apply G60_cur | apply G59_cur | apply G44_cur | apply G75_cur | apply G80_cur | apply G106_cur | apply G66_cur | apply G45_cur))))) ?_
  have c1 : CurOk (G66 (((), 16, ()), x.snd)).snd.fst := by (repeat ((try dsimp only); first | assumption | (with_reducible first | apply G46_cur | apply G60_cur | apply G59_cur | apply G44_cur | apply G75_cur | apply G80_cur | apply G106_cur | apply G66_cur | apply G45_cur)))
  generalize G66 (((), 16, ()), x.snd) = A at *
  refine all_b (fun _ => ?_) (fun _ => ?_)
  · refine allK_intro fun g => ?_
    have hp : p107 (((), 60, ()), A.snd) = true := curB_iff.2 c1
    refine all_t hp ?_
    exact hk _ (g.2 _ hp)
  refine all_b (fun _ => hk _ c1) (fun _ => ?_)
  refine all_b (fun _ => hk _ c1) (fun _ => ?_)
  refine all_t (K66_ok _ (by (repeat ((try dsimp only); first | assumption | (with_reducible first | apply G46_cur | apply G60_cur | apply G59_cur | apply G44_cur | apply G75_cur | apply G80_cur | apply G106_cur | apply G66_cur | apply G45_cur))))) ?_
  exact hk _ (by (repeat ((try dsimp only); first | assumption | (with_reducible first | apply G46_cur | apply G60_cur | apply G59_cur | apply G44_cur | apply G75_cur | apply G80_cur | apply G106_cur | apply G66_cur | apply G45_cur))))

def p91 (x : I91.den) : Bool := curB x.2.1
def Q91 (x : I91.den) (y : O91.den) : Prop := CurOk y.2.1
theorem e91 : Nonempty (Ch I91 O91 p91 Q91) := ⟨⟨fun _ => (((0, 0, 0, ()), ()), (curZ, ())), fun _ _ => curZ_ok⟩⟩
theorem fam91 : FamOK Try.prog 91 (sgFam true I91 O91 p91 Q91 e91) := sgN_ok env91 (N := N91 p108 Q108 e108) (mkN_ok ⟨fam108, trivial⟩) is91 noNLoops fun x hx k hk => by
  have hk : ∀ y : O91.den, CurOk y.2.1 → k y = some () := hk
  have h : CurOk x.2.1 := curB_iff.1 hx
  refine Eq.trans (evN91 _ _ _ _ _ _ _ _ _ _ _ k x) ?_
  unfold rN91
  dsimp only
  haveI := e108
  refine all_t (K46_ok _ (by (repeat ((try dsimp only); first | assumption | (with_reducible first | apply G46_cur | apply G60_cur | apply G59_cur | apply G44_cur | apply G75_cur | apply G80_cur | apply G106_cur | apply G66_cur | apply G45_cur))))) ?_
  refine allK_intro fun g => ?_
  have c1 : CurOk (G46 (((), ()), x.snd)).snd.fst := by (repeat ((try dsimp only); first | assumption | (with_reducible first | apply G46_cur | apply G60_cur | apply G59_cur | apply G44_cur | apply G75_cur | apply G80_cur | apply G106_cur | apply G66_cur | apply G45_cur)))
  generalize G46 (((), ()), x.snd) = A at *
  have hp : p108 (((), ()), A.snd) = true := curB_iff.2 c1
  have q1 : CurOk (g.val (((), ()), A.snd)).2.1 := g.2 _ hp
  refine all_t hp ?_
  generalize g.val (((), ()), A.snd) = B at *
  refine all_t (K66_ok _ (by (repeat ((try dsimp only); first | assumption | (with_reducible first | apply G46_cur | apply G60_cur | apply G59_cur | apply G44_cur | apply G75_cur | apply G80_cur | apply G106_cur | apply G66_cur | apply G45_cur))))) ?_
  have c2 : CurOk (G66 (((), 4000, ()), B.snd)).snd.fst := by (repeat ((try dsimp only); first | assumption | (with_reducible first | apply G46_cur | apply G60_cur | apply G59_cur | apply G44_cur | apply G75_cur | apply G80_cur | apply G106_cur | apply G66_cur | apply G45_cur)))
  generalize G66 (((), 4000, ()), B.snd) = C at *
  refine all_t (K66_ok _ (by (repeat ((try dsimp only); first | assumption | (with_reducible first | apply G46_cur | apply G60_cur | apply G59_cur | apply G44_cur | apply G75_cur | apply G80_cur | apply G106_cur | apply G66_cur | apply G45_cur))))) ?_
  have c3 : CurOk (G66 (((), 14, ()), C.snd)).snd.fst := by (repeat ((try dsimp only); first | assumption | (with_reducible first | apply G46_cur | apply G60_cur | apply G59_cur | apply G44_cur | apply G75_cur | apply G80_cur | apply G106_cur | apply G66_cur | apply G45_cur)))
  generalize G66 (((), 14, ()), C.snd) = D at *
  refine all_b (fun _ => ?_) (fun _ => ?_)
  · refine all_t (K76_ok _ c3 (by simp)) ?_
    exact hk _ (G76_cur _ c3 (by simp))
  refine all_b (fun _ => ?_) (fun _ => hk _ c3)
  refine all_t (K66_ok _ (by (repeat ((try dsimp only); first | assumption | (with_reducible first | apply G46_cur | apply G60_cur | apply G59_cur | apply G44_cur | apply G75_cur | apply G80_cur | apply G106_cur | apply G66_cur | apply G45_cur))))) ?_
  exact hk _ (by (repeat ((try dsimp only); first | assumption | (with_reducible first | apply G46_cur | apply G60_cur | apply G59_cur | apply G44_cur | apply G75_cur | apply G80_cur | apply G106_cur | apply G66_cur | apply G45_cur))))

/-! ## Some legs -/

def pL61_5 (v : V61_5) : Bool := curB v.2.1 && (decide (0 ≤ v.1.2.2.1) && decide ((v.2.2.1.length : Int) + v.1.2.2.1 ≤ 51))
def QL61_5 (v : V61_5) (y : X61_5) : Prop := CurOk y.2.1 ∧ y.2.2.1.length ≤ 51
theorem pL61_5_iff {v : V61_5} : pL61_5 v = true ↔ CurOk v.2.1 ∧ 0 ≤ v.1.2.2.1 ∧ (v.2.2.1.length : Int) + v.1.2.2.1 ≤ 51 := by
  unfold pL61_5
  simp only [Bool.and_eq_true, decide_eq_true_eq, curB_iff]
theorem eL61_5 : Nonempty (ChL pL61_5 QL61_5) := ⟨⟨fun _ => (((), ()), (curZ, [], ())), fun _ _ => ⟨curZ_ok, Nat.zero_le _⟩⟩⟩

theorem legs_loop (v : V61_5) (hv : pL61_5 v = true) (h : X61_5 → Option Unit) (hq0 : ∀ y, QL61_5 v y → h y = some ()) : ∃ n, iter (qN61_5 K66 G66 K45 G45 K91 G91 kL61_5 xL61_5 p91 Q91 e91 pL61_5 QL61_5 eL61_5 h) n v = some () := by
  have hv := pL61_5_iff.1 hv
  refine ⟨52, ?_⟩
  refine iter_ind (q := qN61_5 K66 G66 K45 G45 K91 G91 kL61_5 xL61_5 p91 Q91 e91 pL61_5 QL61_5 eL61_5 h)
    (fun u => CurOk u.2.1 ∧ 0 ≤ u.1.2.2.1 ∧ (u.2.2.1.length : Int) + u.1.2.2.1 ≤ 51)
    (fun _ r => r = some ()) (fun u => u.1.2.2.1.toNat) ?_ _ _ hv (by omega)
  rintro ⟨⟨_, _, n, _⟩, ⟨c0, c1, c2, _⟩, l, _⟩ f ⟨g0, g1, g2⟩ ih
  dsimp only at g0 g1 g2 ih
  unfold qN61_5
  dsimp only
  by_cases hk : n > 0
  · refine all_t (by simpa using hk) ?_
    haveI := e91
    refine allK_intro fun g => ?_
    have hp : p91 (((), ()), (c0, c1, c2, ()), ()) = true := curB_iff.2 g0
    refine all_t hp ?_
    refine all_t (capOk_of (by simp only [List.length_set, List.length_replicate]; omega)) ?_
    have e : IntKind.i64.wrap (n - 1) = n - 1 := w64 (by omega) (by omega)
    refine ih _ ⟨g.2 _ hp, ?_, ?_⟩ ?_
    · show 0 ≤ IntKind.i64.wrap (n - 1); omega
    · simp only [e, List.length_append, List.length_set, List.length_replicate]; omega
    · show (IntKind.i64.wrap (n - 1)).toNat < n.toNat; omega
  · have hd : decide (n > 0) = false := by simpa using hk
    rw [hd]
    exact hq0 _ ⟨g0, by show l.length ≤ 51; omega⟩

theorem loops61 : NLoopsOK (Γ61 K66 G66 K45 G45 K91 G91 kL61_5 xL61_5) (N61 p91 Q91 e91 pL61_5 QL61_5 eL61_5) (bodyOf Try.f61) := by
  intro c' hc L hL
  have hl : loopsOf (bodyOf Try.f61) = [lc61_5] := by kernel_rfl
  rw [hl] at hc
  rw [List.mem_singleton] at hc
  subst hc
  have hr : firstRegion lc61_5 = 5 := by kernel_rfl
  rw [hr] at hL
  have hL' : some (loopXN [0, 3, 4] [] 0 [3] [] sh61_5 shX61_5 pL61_5 QL61_5 eL61_5) = some L := hL
  rw [← Option.some.inj hL']
  exact loopXN_sound (sh := sh61_5) (shX := shX61_5) (g := fun h f v => qN61_5 K66 G66 K45 G45 K91 G91 kL61_5 xL61_5 p91 Q91 e91 pL61_5 QL61_5 eL61_5 h f v) (fun h f v => evlN61_5 K66 G66 K45 G45 K91 G91 kL61_5 xL61_5 p91 Q91 e91 pL61_5 QL61_5 eL61_5 h f v) legs_loop

def p61 (x : I61.den) : Bool := curB x.2.1
def Q61 (x : I61.den) (y : O61.den) : Prop := CurOk y.2.1 ∧ y.2.2.1.length ≤ 51
theorem e61 : Nonempty (Ch I61 O61 p61 Q61) := ⟨⟨fun _ => (((), ()), (curZ, [], ())), fun _ _ => ⟨curZ_ok, Nat.zero_le _⟩⟩⟩
theorem fifty (d : Int) (h : 0 ≤ d ∧ d < 2) : 0 ≤ IntKind.i64.wrap (50 + d) ∧ IntKind.i64.wrap (50 + d) ≤ 51 := by
  rw [w64 (by omega) (by omega)]
  omega
theorem five (d : Int) (h : 0 ≤ d ∧ d < 5) : (0 : Int) + d ≤ 51 := by omega
theorem fam61 : FamOK Try.prog 61 (sgFam true I61 O61 p61 Q61 e61) := sgN_ok env61 (N := N61 p91 Q91 e91 pL61_5 QL61_5 eL61_5) (mkN_ok ⟨fam91, trivial⟩) is61 loops61 fun x hx k hk => by
  have hk : ∀ y : O61.den, CurOk y.2.1 → y.2.2.1.length ≤ 51 → k y = some () := fun y h1 h2 => hk y ⟨h1, h2⟩
  have h : CurOk x.2.1 := curB_iff.1 hx
  refine Eq.trans (evN61 _ _ _ _ _ _ _ _ _ _ _ _ _ _ k x) ?_
  unfold rN61
  dsimp only
  haveI := eL61_5
  have hz : List.replicate 0 (zero S53) = [] := rfl
  rw [hz]
  refine all_t (K66_ok _ (by (repeat ((try dsimp only); first | assumption | (with_reducible first | apply G46_cur | apply G60_cur | apply G59_cur | apply G44_cur | apply G75_cur | apply G80_cur | apply G106_cur | apply G66_cur | apply G45_cur))))) ?_
  have b1 := below_bd 5 x.2.1 h (by decide)
  have b1 : 0 ≤ (G66 (((), 5, ()), x.snd)).fst.fst ∧ (G66 (((), 5, ()), x.snd)).fst.fst < 5 := b1
  have c1 : CurOk (G66 (((), 5, ()), x.snd)).snd.fst := by (repeat ((try dsimp only); first | assumption | (with_reducible first | apply G46_cur | apply G60_cur | apply G59_cur | apply G44_cur | apply G75_cur | apply G80_cur | apply G106_cur | apply G66_cur | apply G45_cur)))
  generalize G66 (((), 5, ()), x.snd) = A at *
  obtain ⟨⟨n, _⟩, cA, _⟩ := A
  dsimp only at b1 c1 ⊢
  refine all_t (K45_ok _ (by (repeat ((try dsimp only); first | assumption | (with_reducible first | apply G46_cur | apply G60_cur | apply G59_cur | apply G44_cur | apply G75_cur | apply G80_cur | apply G106_cur | apply G66_cur | apply G45_cur))))) ?_
  have c2 : CurOk (G45 (((), 40, ()), cA, ())).snd.fst := by (repeat ((try dsimp only); first | assumption | (with_reducible first | apply G46_cur | apply G60_cur | apply G59_cur | apply G44_cur | apply G75_cur | apply G80_cur | apply G106_cur | apply G66_cur | apply G45_cur)))
  generalize G45 (((), 40, ()), cA, ()) = B at *
  refine all_b (fun _ => ?_) (fun _ => ?_)
  · refine all_t (K66_ok _ (by (repeat ((try dsimp only); first | assumption | (with_reducible first | apply G46_cur | apply G60_cur | apply G59_cur | apply G44_cur | apply G75_cur | apply G80_cur | apply G106_cur | apply G66_cur | apply G45_cur))))) ?_
    have b3 := fifty _ (below_bd 2 B.2.1 c2 (by decide))
    have b3 : 0 ≤ IntKind.i64.wrap (50 + (G66 (((), 2, ()), B.snd)).fst.fst) ∧ IntKind.i64.wrap (50 + (G66 (((), 2, ()), B.snd)).fst.fst) ≤ 51 := b3
    have c3 : CurOk (G66 (((), 2, ()), B.snd)).snd.fst := by (repeat ((try dsimp only); first | assumption | (with_reducible first | apply G46_cur | apply G60_cur | apply G59_cur | apply G44_cur | apply G75_cur | apply G80_cur | apply G106_cur | apply G66_cur | apply G45_cur)))
    generalize G66 (((), 2, ()), B.snd) = C at *
    generalize IntKind.i64.wrap (50 + C.fst.fst) = m at *
    have hu : pL61_5 (((), (), m, ()), C.snd.fst, [], ()) = true := pL61_5_iff.2 ⟨c3, b3.1, by show (0 : Int) + m ≤ 51; omega⟩
    refine all_t hu ?_
    refine allK_intro fun g => ?_
    obtain ⟨s1, s2⟩ := g.2 _ hu
    exact hk _ s1 s2
  · have hu : pL61_5 (((), (), n, ()), B.snd.fst, [], ()) = true := pL61_5_iff.2 ⟨c2, b1.1, five _ b1⟩
    refine all_t hu ?_
    refine allK_intro fun g => ?_
    obtain ⟨s1, s2⟩ := g.2 _ hu
    exact hk _ s1 s2

/-! ## What the laws are handed -/

def codeC (l : List Int) : Bool := decide (l.length ≤ 1048576)
def p20 (x : I20.den) : Bool := codeC x.1.1
def Q20 (x : I20.den) (y : O20.den) : Prop := y.2.1.length ≤ 51
theorem e20 : Nonempty (Ch I20 O20 p20 Q20) := ⟨⟨fun _ => (((0, 0), 0, (), ([], [], ()), ()), ([], ())), fun _ _ => Nat.zero_le _⟩⟩
theorem fam20 : FamOK Try.prog 20 (sgFam false I20 O20 p20 Q20 e20) := sgN_ok env20 (N := N20 p58 Q58 e58 p61 Q61 e61) (mkN_ok ⟨fam58, fam61, trivial⟩) is20 noNLoops fun x hx k hk => by
  have hk : ∀ y : O20.den, y.2.1.length ≤ 51 → k y = some () := hk
  have h : x.1.1.length ≤ 1048576 := by simpa [p20, codeC] using hx
  refine Eq.trans (evN20 _ _ _ _ _ _ _ _ _ _ _ _ _ _ _ _ k x) ?_
  unfold rN20
  dsimp only
  haveI := e58
  haveI := e61
  have c0 := G30_cur x h
  refine all_t (K30_ok x h) ?_
  generalize G30 x = A at *
  refine allK_intro fun g => ?_
  have hp : p58 (((), ()), A.snd) = true := curB_iff.2 c0
  obtain ⟨q1, _⟩ := g.2 _ hp
  refine all_t hp ?_
  generalize g.val (((), ()), A.snd) = B at *
  refine all_t (K59_ok _ (by (repeat ((try dsimp only); first | assumption | (with_reducible first | apply G46_cur | apply G60_cur | apply G59_cur | apply G44_cur | apply G75_cur | apply G80_cur | apply G106_cur | apply G66_cur | apply G45_cur))))) ?_
  have c1 : CurOk (G59 (((), B.fst), B.snd)).snd.fst := by (repeat ((try dsimp only); first | assumption | (with_reducible first | apply G46_cur | apply G60_cur | apply G59_cur | apply G44_cur | apply G75_cur | apply G80_cur | apply G106_cur | apply G66_cur | apply G45_cur)))
  generalize G59 (((), B.fst), B.snd) = C at *
  refine all_t (K60_ok _ (by (repeat ((try dsimp only); first | assumption | (with_reducible first | apply G46_cur | apply G60_cur | apply G59_cur | apply G44_cur | apply G75_cur | apply G80_cur | apply G106_cur | apply G66_cur | apply G45_cur))))) ?_
  refine allK_intro fun g2 => ?_
  have c2 : CurOk (G60 (((), B.fst), C.snd)).snd.fst := by (repeat ((try dsimp only); first | assumption | (with_reducible first | apply G46_cur | apply G60_cur | apply G59_cur | apply G44_cur | apply G75_cur | apply G80_cur | apply G106_cur | apply G66_cur | apply G45_cur)))
  generalize G60 (((), B.fst), C.snd) = D at *
  have hp2 : p61 (((), ()), D.snd) = true := curB_iff.2 c2
  obtain ⟨_, r2⟩ := g2.2 _ hp2
  refine all_t hp2 ?_
  exact hk _ r2

def pT25 (x : Den A25) : Bool := codeC x.1
/-- What is taken for slack: a number of sixteenths. -/
def mostG (m : Nat) : Prop := ∃ d : Int, 0 ≤ d ∧ d < 20 ∧ m = farith .quo .f32 (FloatKind.nearest .f32 (IntKind.i64.wrap (d - 1))) 1098907648
def QT25 (x : Den A25) (y : Den R25) : Prop := TideG y.1 ∧ inI y.2.2.1 ∧ mostG y.2.2.2.1
theorem eT25 : Nonempty (ChT A25 R25 pT25 QT25) := ⟨⟨fun _ => (([], [], ()), (0, 0), 0, farith .quo .f32 (FloatKind.nearest .f32 (IntKind.i64.wrap (0 - 1))) 1098907648, ()), fun _ _ => ⟨⟨Nat.zero_le _, Nat.zero_le _⟩, ⟨by show -9223372036854775808 ≤ (0 : Int); decide, by show (0 : Int) ≤ 9223372036854775807; decide⟩, 0, by decide, by decide, rfl⟩⟩⟩
theorem fam25 : FamOK Try.prog 25 (fnFam A25 R25 pT25 QT25 eT25) := fnN_ok env25 (N := N25 p58 Q58 e58) (mkN_ok ⟨fam58, trivial⟩) is25 noNLoops fun x hx k hk => by
  have hk : ∀ y : Den R25, TideG y.1 → inI y.2.2.1 → mostG y.2.2.2.1 → k y = some () := fun y h1 h2 h3 => hk y ⟨h1, h2, h3⟩
  have h : x.1.length ≤ 1048576 := by simpa [pT25, codeC] using hx
  refine Eq.trans (evN25 _ _ _ _ _ _ _ _ _ _ _ _ _ _ _ k x) ?_
  unfold rN25
  dsimp only
  haveI := e58
  have c0 := G30_cur (x, ()) h
  refine all_t (K30_ok (x, ()) h) ?_
  generalize G30 (x, ()) = A at *
  refine allK_intro fun g => ?_
  have hp : p58 (((), ()), A.snd) = true := curB_iff.2 c0
  obtain ⟨q1, q2⟩ := g.2 _ hp
  refine all_t hp ?_
  generalize g.val (((), ()), A.snd) = B at *
  refine all_t (K59_ok _ (by (repeat ((try dsimp only); first | assumption | (with_reducible first | apply G46_cur | apply G60_cur | apply G59_cur | apply G44_cur | apply G75_cur | apply G80_cur | apply G106_cur | apply G66_cur | apply G45_cur))))) ?_
  have c1 : CurOk (G59 (((), B.fst), B.snd)).snd.fst := by (repeat ((try dsimp only); first | assumption | (with_reducible first | apply G46_cur | apply G60_cur | apply G59_cur | apply G44_cur | apply G75_cur | apply G80_cur | apply G106_cur | apply G66_cur | apply G45_cur)))
  generalize G59 (((), B.fst), B.snd) = C at *
  refine all_t (K60_ok _ (by (repeat ((try dsimp only); first | assumption | (with_reducible first | apply G46_cur | apply G60_cur | apply G59_cur | apply G44_cur | apply G75_cur | apply G80_cur | apply G106_cur | apply G66_cur | apply G45_cur))))) ?_
  have c2 : CurOk (G60 (((), B.fst), C.snd)).snd.fst := by (repeat ((try dsimp only); first | assumption | (with_reducible first | apply G46_cur | apply G60_cur | apply G59_cur | apply G44_cur | apply G75_cur | apply G80_cur | apply G106_cur | apply G66_cur | apply G45_cur)))
  have i2 : inI (G60 (((), B.fst), C.snd)).fst.fst := (G60_ok (((), B.fst), C.snd) c1).2
  generalize G60 (((), B.fst), C.snd) = D at *
  refine all_t (K45_ok _ (by (repeat ((try dsimp only); first | assumption | (with_reducible first | apply G46_cur | apply G60_cur | apply G59_cur | apply G44_cur | apply G75_cur | apply G80_cur | apply G106_cur | apply G66_cur | apply G45_cur))))) ?_
  have c3 : CurOk (G45 (((), 10, ()), D.snd)).snd.fst := by (repeat ((try dsimp only); first | assumption | (with_reducible first | apply G46_cur | apply G60_cur | apply G59_cur | apply G44_cur | apply G75_cur | apply G80_cur | apply G106_cur | apply G66_cur | apply G45_cur)))
  generalize G45 (((), 10, ()), D.snd) = E at *
  refine all_b (fun _ => ?_) (fun _ => ?_)
  · refine all_t (K66_ok _ (by (repeat ((try dsimp only); first | assumption | (with_reducible first | apply G46_cur | apply G60_cur | apply G59_cur | apply G44_cur | apply G75_cur | apply G80_cur | apply G106_cur | apply G66_cur | apply G45_cur))))) ?_
    have c4 : CurOk (G66 (((), 800, ()), E.snd)).snd.fst := by (repeat ((try dsimp only); first | assumption | (with_reducible first | apply G46_cur | apply G60_cur | apply G59_cur | apply G44_cur | apply G75_cur | apply G80_cur | apply G106_cur | apply G66_cur | apply G45_cur)))
    generalize G66 (((), 800, ()), E.snd) = M at *
    refine all_t (K66_ok _ (by (repeat ((try dsimp only); first | assumption | (with_reducible first | apply G46_cur | apply G60_cur | apply G59_cur | apply G44_cur | apply G75_cur | apply G80_cur | apply G106_cur | apply G66_cur | apply G45_cur))))) ?_
    have b5 := below_bd 20 M.2.1 c4 (by decide)
    exact hk _ q2 (wrap_inI _) ⟨_, b5.1, b5.2, rfl⟩
  · refine all_t (K66_ok _ (by (repeat ((try dsimp only); first | assumption | (with_reducible first | apply G46_cur | apply G60_cur | apply G59_cur | apply G44_cur | apply G75_cur | apply G80_cur | apply G106_cur | apply G66_cur | apply G45_cur))))) ?_
    have b5 := below_bd 20 E.2.1 c3 (by decide)
    exact hk _ q2 i2 ⟨_, b5.1, b5.2, rfl⟩

theorem nok5 : NOK Try.prog (N5 p20 Q20 e20) := mkN_ok ⟨fam20, trivial⟩
theorem nok6 : NOK Try.prog (N6 pT25 QT25 eT25) := mkN_ok ⟨fam25, trivial⟩

end Go.Proofs.Ytmmdjajebmihhaa.AM

/- Plainly: the draw of a field of winds. Conditions: those that each lemma names. -/
namespace Go.Proofs.Ytmmdjajebmihhaa.AM
open Go Go.Proofs
set_option linter.unusedVariables false

/-! ## One hour -/

def wideB (b : Int × Int × Int × Unit × Unit) : Bool := decide (1 ≤ b.1) && (decide (b.1 ≤ 3) && decide (b.2.1 = 2))
def pL31_8 (v : V31_8) : Bool := curB v.2.1 && (wideB v.2.2.2.1 && (decide (0 ≤ v.1.2.2.2.2.2.2.1) && (decide (v.1.2.2.2.2.2.2.1 ≤ v.2.2.2.1.1 * 2) && decide ((v.2.2.2.2.2.1.length : Int) = v.1.2.2.2.2.2.2.1))))
def QL31_8 (v : V31_8) (y : X31_8) : Prop := CurOk y.2.1 ∧ y.2.2.2.1 = v.2.2.2.1 ∧ y.1.2.2.2.2.1 = v.1.2.2.2.2.1 ∧ y.2.2.2.2.1 = v.2.2.2.2.1 ∧ (y.2.2.2.2.2.1.length : Int) = v.2.2.2.1.1 * 2
theorem pL31_8_iff {v : V31_8} : pL31_8 v = true ↔ CurOk v.2.1 ∧ (1 ≤ v.2.2.2.1.1 ∧ v.2.2.2.1.1 ≤ 3 ∧ v.2.2.2.1.2.1 = 2) ∧ 0 ≤ v.1.2.2.2.2.2.2.1 ∧ v.1.2.2.2.2.2.2.1 ≤ v.2.2.2.1.1 * 2 ∧ (v.2.2.2.2.2.1.length : Int) = v.1.2.2.2.2.2.2.1 := by
  unfold pL31_8 wideB
  simp only [Bool.and_eq_true, decide_eq_true_eq, curB_iff]
theorem eL31_8 : Nonempty (ChL pL31_8 QL31_8) :=
  ⟨⟨fun v => (((), (), (), (0, 0), v.1.2.2.2.2.1, (), ()), (curZ, (0, 0, 0, (), ()), v.2.2.2.1, v.2.2.2.2.1, List.replicate (v.2.2.2.1.1 * 2).toNat (0, 0), ())),
    fun v hv => ⟨curZ_ok, rfl, rfl, rfl, by
      have h := pL31_8_iff.1 hv
      show ((List.replicate (v.2.2.2.1.1 * 2).toNat ((0 : Nat), (0 : Nat))).length : Int) = v.2.2.2.1.1 * 2
      rw [List.length_replicate]; omega⟩⟩⟩

def pL31_4 (v : V31_4) : Bool := curB v.2.1 && (wideB v.2.2.2.1 && (decide (0 ≤ v.1.2.2.2.2.1) && (decide ((v.2.2.2.2.1.length : Int) + v.1.2.2.2.2.1 ≤ 8) && (decide (1 ≤ (v.2.2.2.2.1.length : Int) + v.1.2.2.2.2.1) && v.2.2.2.2.1.all fun l => decide ((l.length : Int) = v.2.2.2.1.1 * 2)))))
def QL31_4 (v : V31_4) (y : X31_4) : Prop := CurOk y.2.1 ∧ y.2.2.2.1 = v.2.2.2.1 ∧ 1 ≤ y.2.2.2.2.1.length ∧ y.2.2.2.2.1.length ≤ 8 ∧ ∀ l ∈ y.2.2.2.2.1, (List.length l : Int) = v.2.2.2.1.1 * 2
theorem pL31_4_iff {v : V31_4} : pL31_4 v = true ↔ CurOk v.2.1 ∧ (1 ≤ v.2.2.2.1.1 ∧ v.2.2.2.1.1 ≤ 3 ∧ v.2.2.2.1.2.1 = 2) ∧ 0 ≤ v.1.2.2.2.2.1 ∧ (v.2.2.2.2.1.length : Int) + v.1.2.2.2.2.1 ≤ 8 ∧ 1 ≤ (v.2.2.2.2.1.length : Int) + v.1.2.2.2.2.1 ∧ ∀ l ∈ v.2.2.2.2.1, (List.length l : Int) = v.2.2.2.1.1 * 2 := by
  unfold pL31_4 wideB
  simp only [Bool.and_eq_true, decide_eq_true_eq, curB_iff, List.all_eq_true]
theorem eL31_4 : Nonempty (ChL pL31_4 QL31_4) :=
  ⟨⟨fun v => (((), (), (), ()), (curZ, (0, 0, 0, (), ()), v.2.2.2.1, [List.replicate (v.2.2.2.1.1 * 2).toNat (0, 0)], ())),
    fun v hv => ⟨curZ_ok, rfl, Nat.le_refl 1, by show 1 ≤ 8; decide, by
      intro l hl
      have h := pL31_4_iff.1 hv
      rw [List.mem_singleton.1 hl]
      show ((List.replicate (v.2.2.2.1.1 * 2).toNat ((0 : Nat), (0 : Nat))).length : Int) = v.2.2.2.1.1 * 2
      rw [List.length_replicate]; omega⟩⟩⟩

theorem hour_loop (v : V31_8) (hv : pL31_8 v = true) (h : X31_8 → Option Unit) (hq0 : ∀ y, QL31_8 v y → h y = some ()) : ∃ n, iter (qN31_8 K66 G66 K74 G74 K45 G45 K75 G75 K76 G76 kL31_4 xL31_4 kL31_8 xL31_8 p74 Q74 e74 pL31_4 QL31_4 eL31_4 pL31_8 QL31_8 eL31_8 h) n v = some () := by
  have hv := pL31_8_iff.1 hv
  refine ⟨7, ?_⟩
  refine iter_ind (q := qN31_8 K66 G66 K74 G74 K45 G45 K75 G75 K76 G76 kL31_4 xL31_4 kL31_8 xL31_8 p74 Q74 e74 pL31_4 QL31_4 eL31_4 pL31_8 QL31_8 eL31_8 h)
    (fun u => CurOk u.2.1 ∧ u.2.2.2.1 = v.2.2.2.1 ∧ u.1.2.2.2.2.1 = v.1.2.2.2.2.1 ∧ u.2.2.2.2.1 = v.2.2.2.2.1 ∧ 0 ≤ u.1.2.2.2.2.2.2.1 ∧ u.1.2.2.2.2.2.2.1 ≤ v.2.2.2.1.1 * 2 ∧ (u.2.2.2.2.2.1.length : Int) = u.1.2.2.2.2.2.2.1)
    (fun _ r => r = some ()) (fun u => (6 - u.1.2.2.2.2.2.2.1).toNat) ?_ _ _ ⟨hv.1, rfl, rfl, rfl, hv.2.2.1, hv.2.2.2.1, hv.2.2.2.2⟩ (by omega)
  obtain ⟨-, ⟨w1, w2, w3⟩, -, -, -⟩ := hv
  rintro ⟨⟨_, _, _, ⟨w0, w9⟩, n, _, i, _⟩, ⟨c0, c1, c2, _⟩, ⟨b0, b1, b2, _, _⟩, ⟨a0, a1, a2, _, _⟩, hs, l, _⟩ f ⟨g0, g1, g2, g3, g4, g5, g6⟩ ih
  dsimp only at g0 g1 g2 g3 g4 g5 g6 ih
  have ea : a0 = v.2.2.2.1.1 := congrArg (·.1) g1
  have eb : a1 = 2 := (congrArg (·.2.1) g1).trans w3
  unfold qN31_8
  dsimp only
  have ew : IntKind.i64.wrap (a0 * a1) = v.2.2.2.1.1 * 2 := by rw [eb, ea]; exact w64 (by omega) (by omega)
  rw [ew]
  by_cases hk : i < v.2.2.2.1.1 * 2
  · refine all_t (by simpa using hk) ?_
    have e : IntKind.i64.wrap (i + 1) = i + 1 := w64 (by omega) (by omega)
    refine all_t (K45_ok _ (by (repeat ((try dsimp only); first | assumption | (with_reducible first | apply G75_cur | apply G80_cur | apply G106_cur | apply G66_cur | apply G45_cur))))) ?_
    have c5 : CurOk (G45 (((), 3, ()), (c0, c1, c2, ()), ())).snd.fst := by (repeat ((try dsimp only); first | assumption | (with_reducible first | apply G75_cur | apply G80_cur | apply G106_cur | apply G66_cur | apply G45_cur)))
    generalize G45 (((), 3, ()), (c0, c1, c2, ()), ()) = A at *
    rw [e]
    refine all_b (fun _ => ?_) (fun _ => ?_)
    · haveI := e74
      refine allK_intro fun g => ?_
      have hp : p74 (((), ()), A.snd) = true := curB_iff.2 c5
      refine all_t hp ?_
      refine all_t (capOk_of (by simp only [List.length_set, List.length_replicate]; omega)) ?_
      refine ih _ ⟨g.2 _ hp, g1, g2, g3, ?_, ?_, ?_⟩ ?_ <;> simp only [List.length_append, List.length_set, List.length_replicate] <;> omega
    · refine all_t (capOk_of (by simp only [List.length_set, List.length_replicate]; omega)) ?_
      refine ih _ ⟨c5, g1, g2, g3, ?_, ?_, ?_⟩ ?_ <;> simp only [List.length_append, List.length_set, List.length_replicate] <;> omega
  · have hd : decide (i < v.2.2.2.1.1 * 2) = false := by simpa using hk
    rw [hd]
    exact hq0 _ ⟨g0, g1, g2, g3, by show (l.length : Int) = _; omega⟩

theorem field_loop (v : V31_4) (hv : pL31_4 v = true) (h : X31_4 → Option Unit) (hq0 : ∀ y, QL31_4 v y → h y = some ()) : ∃ n, iter (qN31_4 K66 G66 K74 G74 K45 G45 K75 G75 K76 G76 kL31_4 xL31_4 kL31_8 xL31_8 p74 Q74 e74 pL31_4 QL31_4 eL31_4 pL31_8 QL31_8 eL31_8 h) n v = some () := by
  have hv := pL31_4_iff.1 hv
  refine ⟨9, ?_⟩
  refine iter_ind (q := qN31_4 K66 G66 K74 G74 K45 G45 K75 G75 K76 G76 kL31_4 xL31_4 kL31_8 xL31_8 p74 Q74 e74 pL31_4 QL31_4 eL31_4 pL31_8 QL31_8 eL31_8 h)
    (fun u => CurOk u.2.1 ∧ u.2.2.2.1 = v.2.2.2.1 ∧ 0 ≤ u.1.2.2.2.2.1 ∧ (u.2.2.2.2.1.length : Int) + u.1.2.2.2.2.1 ≤ 8 ∧ 1 ≤ (u.2.2.2.2.1.length : Int) + u.1.2.2.2.2.1 ∧ ∀ l ∈ u.2.2.2.2.1, (List.length l : Int) = v.2.2.2.1.1 * 2)
    (fun _ r => r = some ()) (fun u => u.1.2.2.2.2.1.toNat) ?_ _ _ ⟨hv.1, rfl, hv.2.2⟩ (by omega)
  obtain ⟨-, ⟨w1, w2, w3⟩, -, -, -⟩ := hv
  rintro ⟨⟨_, _, _, w0, n, _⟩, ⟨c0, c1, c2, _⟩, ⟨b0, b1, b2, _, _⟩, ⟨a0, a1, a2, _, _⟩, hs, _⟩ f ⟨g0, g1, g2, g3, g4, g5⟩ ih
  dsimp only at g0 g1 g2 g3 g4 g5 ih
  have ea : a0 = v.2.2.2.1.1 := congrArg (·.1) g1
  have eb : a1 = 2 := (congrArg (·.2.1) g1).trans w3
  unfold qN31_4
  dsimp only
  have hz : List.replicate 0 (zero (Ty.cpx FloatKind.f32)) = [] := rfl
  rw [hz]
  by_cases hk : n > 0
  · refine all_t (by simpa using hk) ?_
    have e : IntKind.i64.wrap (n - 1) = n - 1 := w64 (by omega) (by omega)
    have hu : pL31_8 (((), (), (), w0, n, (), 0, ()), (c0, c1, c2, ()), (b0, b1, b2, (), ()), (a0, a1, a2, (), ()), hs, [], ()) = true :=
      pL31_8_iff.2 ⟨g0, ⟨by show 1 ≤ a0; omega, by show a0 ≤ 3; omega, eb⟩, Int.le_refl 0, by show 0 ≤ a0 * 2; omega, rfl⟩
    refine all_t hu ?_
    haveI := eL31_8
    refine allK_intro fun g => ?_
    obtain ⟨q1, q2, q3, q4, q5⟩ := g.2 _ hu
    generalize g.val (((), (), (), w0, n, (), 0, ()), (c0, c1, c2, ()), (b0, b1, b2, (), ()), (a0, a1, a2, (), ()), hs, [], ()) = y at *
    obtain ⟨⟨_, _, _, w, n', _, _⟩, c, b, a, hs', l, _⟩ := y
    dsimp only at q1 q2 q3 q4 q5
    subst q2 q3 q4
    dsimp only
    rw [e]
    refine all_t (capOk_of (by simp only [List.length_set, List.length_replicate]; omega)) ?_
    refine ih _ ⟨q1, g1, ?_, ?_, ?_, ?_⟩ ?_
    · show 0 ≤ n' - 1; omega
    · simp only [List.length_append, List.length_set, List.length_replicate]; omega
    · simp only [List.length_append, List.length_set, List.length_replicate]; omega
    · intro t ht
      rcases List.mem_append.1 ht with h1 | h1
      · exact g5 t h1
      · rw [show t = l from List.mem_singleton.1 h1, q5, ← ea]
    · show (n' - 1).toNat < n'.toNat; omega
  · have hd : decide (n > 0) = false := by simpa using hk
    rw [hd]
    exact hq0 _ ⟨g0, g1, by show 1 ≤ hs.length; omega, by show hs.length ≤ 8; omega, g5⟩

theorem loops31 : NLoopsOK (Γ31 K66 G66 K74 G74 K45 G45 K75 G75 K76 G76 kL31_4 xL31_4 kL31_8 xL31_8) (N31 p74 Q74 e74 pL31_4 QL31_4 eL31_4 pL31_8 QL31_8 eL31_8) (bodyOf Try.f31) := by
  intro c' hc L hL
  have hl : loopsOf (bodyOf Try.f31) = [lc31_4, lc31_8] := by kernel_rfl
  rw [hl] at hc
  rcases List.mem_cons.1 hc with hc | hc
  · subst hc
    have hr : firstRegion lc31_4 = 4 := by kernel_rfl
    rw [hr] at hL
    have hL' : some (loopXN [0, 2, 3, 4, 5] [.boxNil 3 3] 0 [0, 2, 3] [] sh31_4 shX31_4 pL31_4 QL31_4 eL31_4) = some L := hL
    rw [← Option.some.inj hL']
    exact loopXN_sound (sh := sh31_4) (shX := shX31_4) (g := fun h f v => qN31_4 K66 G66 K74 G74 K45 G45 K75 G75 K76 G76 kL31_4 xL31_4 kL31_8 xL31_8 p74 Q74 e74 pL31_4 QL31_4 eL31_4 pL31_8 QL31_8 eL31_8 h f v) (fun h f v => evlN31_4 K66 G66 K74 G74 K45 G45 K75 G75 K76 G76 kL31_4 xL31_4 kL31_8 xL31_8 p74 Q74 e74 pL31_4 QL31_4 eL31_4 pL31_8 QL31_8 eL31_8 h f v) field_loop
  · rw [List.mem_singleton] at hc
    subst hc
    have hr : firstRegion lc31_8 = 8 := by kernel_rfl
    rw [hr] at hL
    have hL' : some (loopXN [0, 2, 3, 4, 5, 6, 7] [] 2 [0, 2, 3, 4, 5, 6] [] sh31_8 shX31_8 pL31_8 QL31_8 eL31_8) = some L := hL
    rw [← Option.some.inj hL']
    exact loopXN_sound (sh := sh31_8) (shX := shX31_8) (g := fun h f v => qN31_8 K66 G66 K74 G74 K45 G45 K75 G75 K76 G76 kL31_4 xL31_4 kL31_8 xL31_8 p74 Q74 e74 pL31_4 QL31_4 eL31_4 pL31_8 QL31_8 eL31_8 h f v) (fun h f v => evlN31_8 K66 G66 K74 G74 K45 G45 K75 G75 K76 G76 kL31_4 xL31_4 kL31_8 xL31_8 p74 Q74 e74 pL31_4 QL31_4 eL31_4 pL31_8 QL31_8 eL31_8 h f v) hour_loop

end Go.Proofs.Ytmmdjajebmihhaa.AM

/- Plainly: the draw of a field of winds, whole. Conditions: those that each lemma names. -/
namespace Go.Proofs.Ytmmdjajebmihhaa.AM
open Go Go.Proofs
set_option linter.unusedVariables false

def HoursG (l : List (Den (.slice (.cpx .f32)))) : Prop := l.length ≤ 8 ∧ ∀ t ∈ l, List.length t ≤ 6
theorem HoursG.nil : HoursG [] := ⟨Nat.zero_le _, fun _ h => by cases h⟩
def p31 (x : I31.den) : Bool := curB x.2.1
def Q31 (x : I31.den) (y : O31.den) : Prop := CurOk y.2.1 ∧ HoursG y.1.1.2.2.2.1
theorem e31 : Nonempty (Ch I31 O31 p31 Q31) := ⟨⟨fun _ => (((0, 0, 0, [], ()), ()), (curZ, ())), fun _ _ => ⟨curZ_ok, HoursG.nil⟩⟩⟩
theorem field_n (d e : Int) (hd : 0 ≤ d ∧ d < 3) (he : 0 ≤ e ∧ e < 2) : 1 ≤ IntKind.i64.wrap (1 + IntKind.i64.wrap (d * e)) ∧ IntKind.i64.wrap (1 + IntKind.i64.wrap (d * e)) ≤ 3 := by
  have h1 : 0 ≤ d * e ∧ d * e ≤ 2 := by
    rcases (by omega : e = 0 ∨ e = 1) with h1 | h1 <;> rw [h1] <;> omega
  rw [w64 (x := d * e) (by omega) (by omega), w64 (by omega) (by omega)]
  omega
theorem field_w (a : Int) (h : 0 ≤ a ∧ a < 2) : 1 ≤ IntKind.i64.wrap (2 + a) ∧ IntKind.i64.wrap (2 + a) ≤ 3 := by
  rw [w64 (by omega) (by omega)]
  omega

theorem fam31 : FamOK Try.prog 31 (sgFam true I31 O31 p31 Q31 e31) := sgN_ok env31 (N := N31 p74 Q74 e74 pL31_4 QL31_4 eL31_4 pL31_8 QL31_8 eL31_8) (mkN_ok ⟨fam74, trivial⟩) is31 loops31 fun x hx k hk => by
  have hk : ∀ y : O31.den, CurOk y.2.1 ∧ HoursG y.1.1.2.2.2.1 → k y = some () := hk
  have h : CurOk x.2.1 := curB_iff.1 hx
  refine Eq.trans (evN31 _ _ _ _ _ _ _ _ _ _ _ _ _ _ _ _ _ _ _ _ _ _ _ k x) ?_
  unfold rN31
  dsimp only
  haveI := e74
  haveI := eL31_4
  have below : ∀ (n : Int) (c : List Int × Int × Int × Unit), CurOk c → 0 < n → 0 ≤ ((G66 (((), n, ()), c, ())).1.1 : Int) ∧ ((G66 (((), n, ()), c, ())).1.1 : Int) < n := fun n c h hn => below_bd n c h hn
  refine all_t (K66_ok _ (by (repeat ((try dsimp only); first | assumption | (with_reducible first | apply G75_cur | apply G80_cur | apply G106_cur | apply G66_cur | apply G45_cur))))) ?_
  have b1 := below 2 x.2.1 h (by decide)
  have c1 : CurOk (G66 (((), 2, ()), x.snd)).snd.fst := by (repeat ((try dsimp only); first | assumption | (with_reducible first | apply G75_cur | apply G80_cur | apply G106_cur | apply G66_cur | apply G45_cur)))
  generalize hA : G66 (((), 2, ()), x.snd) = A at *
  have b1' : 0 ≤ (A.fst.fst : Int) ∧ (A.fst.fst : Int) < 2 := by rw [← hA]; exact below 2 x.2.1 h (by decide)
  clear hA b1
  refine all_t (K66_ok _ (by (repeat ((try dsimp only); first | assumption | (with_reducible first | apply G75_cur | apply G80_cur | apply G106_cur | apply G66_cur | apply G45_cur))))) ?_
  have c2 : CurOk (G66 (((), 3000, ()), A.snd)).snd.fst := by (repeat ((try dsimp only); first | assumption | (with_reducible first | apply G75_cur | apply G80_cur | apply G106_cur | apply G66_cur | apply G45_cur)))
  generalize G66 (((), 3000, ()), A.snd) = B at *
  refine allK_intro fun g => ?_
  have hp : p74 (((), ()), B.snd) = true := curB_iff.2 c2
  have q1 := g.2 _ hp
  have q1 : CurOk (g.val (((), ()), B.snd)).2.1 := q1
  refine all_t hp ?_
  generalize g.val (((), ()), B.snd) = C at *
  refine all_t (K66_ok _ (by (repeat ((try dsimp only); first | assumption | (with_reducible first | apply G75_cur | apply G80_cur | apply G106_cur | apply G66_cur | apply G45_cur))))) ?_
  have b3 : 0 ≤ ((G66 (((), 3, ()), C.snd)).1.1 : Int) ∧ ((G66 (((), 3, ()), C.snd)).1.1 : Int) < 3 := below 3 C.2.1 q1 (by decide)
  have c3 : CurOk (G66 (((), 3, ()), C.snd)).snd.fst := by (repeat ((try dsimp only); first | assumption | (with_reducible first | apply G75_cur | apply G80_cur | apply G106_cur | apply G66_cur | apply G45_cur)))
  generalize G66 (((), 3, ()), C.snd) = D at *
  refine all_t (K66_ok _ (by (repeat ((try dsimp only); first | assumption | (with_reducible first | apply G75_cur | apply G80_cur | apply G106_cur | apply G66_cur | apply G45_cur))))) ?_
  have b4 : 0 ≤ ((G66 (((), 2, ()), D.snd)).1.1 : Int) ∧ ((G66 (((), 2, ()), D.snd)).1.1 : Int) < 2 := below 2 D.2.1 c3 (by decide)
  have c4 : CurOk (G66 (((), 2, ()), D.snd)).snd.fst := by (repeat ((try dsimp only); first | assumption | (with_reducible first | apply G75_cur | apply G80_cur | apply G106_cur | apply G66_cur | apply G45_cur)))
  generalize G66 (((), 2, ()), D.snd) = E at *
  have hn : 1 ≤ IntKind.i64.wrap (1 + IntKind.i64.wrap (D.fst.fst * E.fst.fst)) ∧ IntKind.i64.wrap (1 + IntKind.i64.wrap (D.fst.fst * E.fst.fst)) ≤ 3 := field_n _ _ b3 b4
  have hw : 1 ≤ IntKind.i64.wrap (2 + A.fst.fst) ∧ IntKind.i64.wrap (2 + A.fst.fst) ≤ 3 := field_w _ b1'
  generalize IntKind.i64.wrap (1 + IntKind.i64.wrap (D.fst.fst * E.fst.fst)) = n at *
  generalize IntKind.i64.wrap (2 + A.fst.fst) = wd at *
  generalize IntKind.i64.wrap (100 + B.fst.fst) = m at *
  have hu : pL31_4 (((), (), (), C.fst.fst, n, ()), E.snd.fst, (0, 0, 0, (), ()), (wd, 2, m, (), ()), [], ()) = true :=
    pL31_4_iff.2 ⟨c4, ⟨hw.1, hw.2, rfl⟩, by show 0 ≤ n; omega, by show (0 : Int) + n ≤ 8; omega, by show 1 ≤ (0 : Int) + n; omega, fun _ h => by cases h⟩
  refine all_t hu ?_
  refine allK_intro fun g => ?_
  obtain ⟨s1, s2, s3, s4, s5⟩ := g.2 _ hu
  generalize g.val (((), (), (), C.fst.fst, n, ()), E.snd.fst, (0, 0, 0, (), ()), (wd, 2, m, (), ()), [], ()) = y at *
  obtain ⟨_, c, b, w, hs, _⟩ := y
  dsimp only at s1 s2 s3 s4 s5
  subst s2
  dsimp only
  have hg : HoursG hs := ⟨s4, fun t ht => by have := s5 t ht; omega⟩
  have c6 : CurOk (G66 (((), 30, ()), c, ())).snd.fst := by (repeat ((try dsimp only); first | assumption | (with_reducible first | apply G75_cur | apply G80_cur | apply G106_cur | apply G66_cur | apply G45_cur)))
  refine all_t (K66_ok _ (by (repeat ((try dsimp only); first | assumption | (with_reducible first | apply G75_cur | apply G80_cur | apply G106_cur | apply G66_cur | apply G45_cur))))) ?_
  generalize G66 (((), 30, ()), c, ()) = F at *
  refine all_b (fun _ => ?_) (fun _ => ?_)
  · refine all_t (K75_ok _ (by (repeat ((try dsimp only); first | assumption | (with_reducible first | apply G75_cur | apply G80_cur | apply G106_cur | apply G66_cur | apply G45_cur))))) ?_
    exact hk _ ⟨by (repeat ((try dsimp only); first | assumption | (with_reducible first | apply G75_cur | apply G80_cur | apply G106_cur | apply G66_cur | apply G45_cur))), hg⟩
  refine all_b (fun _ => hk _ ⟨by (repeat ((try dsimp only); first | assumption | (with_reducible first | apply G75_cur | apply G80_cur | apply G106_cur | apply G66_cur | apply G45_cur))), hg⟩) (fun _ => ?_)
  refine all_b (fun _ => ?_) (fun _ => ?_)
  · refine all_t (K76_ok _ (by (repeat ((try dsimp only); first | assumption | (with_reducible first | apply G75_cur | apply G80_cur | apply G106_cur | apply G66_cur | apply G45_cur)))) (by simp)) ?_
    exact hk _ ⟨G76_cur _ (by (repeat ((try dsimp only); first | assumption | (with_reducible first | apply G75_cur | apply G80_cur | apply G106_cur | apply G66_cur | apply G45_cur)))) (by simp), hg⟩
  refine all_b (fun _ => hk _ ⟨by (repeat ((try dsimp only); first | assumption | (with_reducible first | apply G75_cur | apply G80_cur | apply G106_cur | apply G66_cur | apply G45_cur))), HoursG.nil⟩) (fun _ => ?_)
  refine all_b (fun _ => ?_) (fun _ => hk _ ⟨by (repeat ((try dsimp only); first | assumption | (with_reducible first | apply G75_cur | apply G80_cur | apply G106_cur | apply G66_cur | apply G45_cur))), hg⟩)
  have d0 : (decide ((0 : Int) ≤ 0) && decide ((0 : Int) < (hs.length : Int))) = true := by simp; omega
  refine all_t d0 ?_
  have hm : List.getD hs (Int.toNat 0) (zero (Ty.slice (Ty.cpx FloatKind.f32))) ∈ hs := by
    have h0 : 0 < hs.length := by omega
    show hs.getD 0 _ ∈ hs
    rw [List.getD_eq_getElem?_getD, List.getElem?_eq_getElem h0]
    exact List.getElem_mem h0
  generalize List.getD hs (Int.toNat 0) (zero (Ty.slice (Ty.cpx FloatKind.f32))) = t at *
  have ht := s5 t hm
  have h6 := hg.2 t hm
  refine all_t (by simp; omega) ?_
  refine all_t d0 ?_
  refine hk _ ⟨c6, ?_, ?_⟩
  · show (List.set hs _ _).length ≤ 8
    rw [List.length_set]; exact s4
  · intro u hu
    rcases List.mem_or_eq_of_mem_set hu with h1 | h1
    · exact hg.2 u h1
    · rw [h1]
      simp only [List.length_drop, List.length_take]; omega

end Go.Proofs.Ytmmdjajebmihhaa.AM

/- Plainly: what the law FnNodesNear is handed. Conditions: those that each lemma names. -/
namespace Go.Proofs.Ytmmdjajebmihhaa.AM
open Go Go.Proofs
set_option linter.unusedVariables false

theorem node_ok (x : I32.den) (h : CurOk x.2.1) : Pst (F32 x) fun y => CurOk y.2.1 := by
  unfold F32 r32
  dsimp only
  refine pst_t (K45_ok _ (by (repeat ((try dsimp only); first | assumption | (with_reducible first | apply G75_cur | apply G80_cur | apply G106_cur | apply G66_cur | apply G45_cur))))) ?_
  refine pst_b (fun _ => ?_) (fun _ => ?_)
  · refine pst_t (K76_ok _ (by (repeat ((try dsimp only); first | assumption | (with_reducible first | apply G75_cur | apply G80_cur | apply G106_cur | apply G66_cur | apply G45_cur)))) (by simp)) ?_
    exact pst_some (G76_cur _ (by (repeat ((try dsimp only); first | assumption | (with_reducible first | apply G75_cur | apply G80_cur | apply G106_cur | apply G66_cur | apply G45_cur)))) (by simp))
  · have c1 : CurOk (G45 (((), 25, ()), x.snd)).snd.fst := by (repeat ((try dsimp only); first | assumption | (with_reducible first | apply G75_cur | apply G80_cur | apply G106_cur | apply G66_cur | apply G45_cur)))
    generalize G45 (((), 25, ()), x.snd) = A at *
    generalize IntKind.i64.wrap (IntKind.i64.wrap (_ * 0) + 4) = z at *
    refine pst_t (K66_ok _ c1) ?_
    exact pst_some (G66_cur _ c1)
theorem K32_ok (x : I32.den) (h : CurOk x.2.1) : K32 x = true := pst_k (node_ok x h)
theorem G32_cur (x : I32.den) (h : CurOk x.2.1) : CurOk (G32 x).2.1 := pst_g _ (node_ok x h)
theorem time_ok (x : I33.den) (h : CurOk x.2.1) : Pst (F33 x) fun y => CurOk y.2.1 := by
  unfold F33 r33
  dsimp only
  refine pst_t (K45_ok _ (by (repeat ((try dsimp only); first | assumption | (with_reducible first | apply G75_cur | apply G80_cur | apply G106_cur | apply G66_cur | apply G45_cur))))) ?_
  refine pst_b (fun _ => ?_) (fun _ => ?_)
  · refine pst_t (K76_ok _ (by (repeat ((try dsimp only); first | assumption | (with_reducible first | apply G75_cur | apply G80_cur | apply G106_cur | apply G66_cur | apply G45_cur)))) (by simp)) ?_
    exact pst_some (G76_cur _ (by (repeat ((try dsimp only); first | assumption | (with_reducible first | apply G75_cur | apply G80_cur | apply G106_cur | apply G66_cur | apply G45_cur)))) (by simp))
  · refine pst_t (K66_ok _ (by (repeat ((try dsimp only); first | assumption | (with_reducible first | apply G75_cur | apply G80_cur | apply G106_cur | apply G66_cur | apply G45_cur))))) ?_
    exact pst_some (by (repeat ((try dsimp only); first | assumption | (with_reducible first | apply G75_cur | apply G80_cur | apply G106_cur | apply G66_cur | apply G45_cur))))
theorem K33_ok (x : I33.den) (h : CurOk x.2.1) : K33 x = true := pst_k (time_ok x h)
theorem G33_cur (x : I33.den) (h : CurOk x.2.1) : CurOk (G33 x).2.1 := pst_g _ (time_ok x h)

def codeB (l : List Int) : Bool := decide (l.length ≤ 1048576)
def pT8 (x : Den A8) : Bool := codeB x.1
def QT8 (x : Den A8) (y : Den R8) : Prop := HoursG y.1.2.2.2.1
theorem eT8 : Nonempty (ChT A8 R8 pT8 QT8) := ⟨⟨fun _ => ((0, 0, 0, [], ()), 0, 0, ()), fun _ _ => HoursG.nil⟩⟩
theorem fam8 : FamOK Try.prog 8 (fnFam A8 R8 pT8 QT8 eT8) := fnN_ok env8 (N := N8 p31 Q31 e31) (mkN_ok ⟨fam31, trivial⟩) is8 noNLoops fun x hx k hk => by
  have hk : ∀ y : Den R8, HoursG y.1.2.2.2.1 → k y = some () := hk
  have h : x.1.length ≤ 1048576 := by simpa [pT8, codeB] using hx
  refine Eq.trans (evN8 _ _ _ _ _ _ _ _ _ _ _ k x) ?_
  unfold rN8
  dsimp only
  have c0 := G30_cur (x, ()) h
  haveI := e31
  refine all_t (K30_ok (x, ()) h) ?_
  refine allK_intro fun g => ?_
  have hp : p31 (((), ()), (G30 (x, ())).snd) = true := curB_iff.2 c0
  obtain ⟨q1, q2⟩ := g.2 _ hp
  refine all_t hp ?_
  generalize g.val (((), ()), (G30 (x, ())).snd) = A at *
  refine all_t (K32_ok _ q1) ?_
  have c1 : CurOk (G32 (((), A.fst), A.snd)).snd.fst := G32_cur (((), A.fst), A.snd) q1
  generalize G32 (((), A.fst), A.snd) = B at *
  refine all_t (K33_ok _ c1) ?_
  exact hk _ q2

theorem nok3 : NOK Try.prog (N3 pT8 QT8 eT8) := mkN_ok ⟨fam8, trivial⟩

end Go.Proofs.Ytmmdjajebmihhaa.AM

/- Plainly: what a field of winds must meet; both sides ask the same. Conditions: short lists. -/
namespace Go.Proofs.Ytmmdjajebmihhaa.AM
open Go Go.Proofs
set_option linter.unusedVariables false

def amt (s : Nat) : Nat := bif flt .f32 s 0 then fneg .f32 s else s
theorem F67_eq (s : Nat) : F67 (s, ()) = some (amt s, ()) := by
  unfold F67 r67 amt
  cases flt .f32 s 0 <;> rfl
theorem F70_eq (s : Nat) : F70 (s, ()) = some (amt s, ()) := by
  unfold F70 r70 amt
  cases flt .f32 s 0 <;> rfl
def le100 (s : Nat) : Bool := flt .f32 (amt s) 1120403456 || feq .f32 (amt s) 1120403456
def velB (c : Nat × Nat) : Bool := le100 c.1 && le100 c.2
theorem F103_eq (c : Nat × Nat) : F103 (c, ()) = some (velB c, ()) := by
  unfold F103 r103 velB
  have e1 : F67 (c.1, ()) = some (amt c.1, ()) := F67_eq c.1
  have e2 : F67 (c.2, ()) = some (amt c.2, ()) := F67_eq c.2
  simp only [K67, G67, e1, e2, Option.isSome_some, Option.getD_some, cond_true]
  show (bif le100 c.1 then some (le100 c.2, ()) else some (false, ())) = _
  cases le100 c.1 <;> rfl
theorem F78_eq (c : Nat × Nat) : F78 (c, ()) = some (velB c, ()) := by
  unfold F78 r78 velB
  have e1 : F70 (c.1, ()) = some (amt c.1, ()) := F70_eq c.1
  have e2 : F70 (c.2, ()) = some (amt c.2, ()) := F70_eq c.2
  simp only [K70, G70, e1, e2, Option.isSome_some, Option.getD_some, cond_true]
  show (bif le100 c.1 then some (le100 c.2, ()) else some (false, ())) = _
  cases le100 c.1 <;> rfl

def atV (l : List (Nat × Nat)) (i : Nat) : Nat × Nat := l.getD i (0, 0)
def hourB (l : List (Nat × Nat)) : Bool := allFrom (fun i => velB (atV l i)) 0 l.length
theorem F77_eq (l : List (Nat × Nat)) (h : l.length ≤ 6) : F77 (l, ()) = some (hourB l, ()) := by
  have hl : l77_2 ((l, (l.length : Int), (0 : Int), ()), ()) = some (bif hourB l then .inl ((), ()) else .inr ((false, ()), ())) := by
    refine (iter_allB (q := q77_2 K103 G103) (fun k => ((l, (l.length : Int), (k : Int), ()), ())) l.length (fun i => velB (atV l i)) _ _ ?_ ?_ _ ?_ : _)
    · intro k f hk
      unfold q77_2
      have e1 : decide ((k : Int) < (l.length : Int)) = true := by simpa using hk
      have e2 : decide (0 ≤ (k : Int)) = true := by simp
      have ha : List.getD l k (zero (Ty.cpx FloatKind.f32)) = atV l k := rfl
      have e3 : F103 (atV l k, ()) = some (velB (atV l k), ()) := F103_eq _
      simp only [w64n k (by omega), e1, e2, Bool.and_self, cond_true, Int.toNat_natCast, ha, K103, G103, e3, Option.isSome_some, Option.getD_some]
      cases velB (atV l k) <;> rfl
    · intro f
      simp [q77_2]
    · simp only [b77_2]; omega
  unfold F77 r77
  simp only [kL77_2, tL77_2, yL77_2, hl, Option.isSome_some, cond_true]
  cases hourB l <;> rfl

def inB (x a b : Int) : Bool := decide (a ≤ x) && decide (x ≤ b)
theorem F48_eq (x a b : Int) : F48 (x, a, b, ()) = some (inB x a b, ()) := by
  unfold F48 r48 inB
  show (bif decide (x ≥ a) then some (decide (x ≤ b), ()) else some (false, ())) = _
  show (bif decide (a ≤ x) then some (decide (x ≤ b), ()) else some (false, ())) = _
  cases decide (a ≤ x) <;> rfl
theorem F39_eq (x a b : Int) : F39 (x, a, b, ()) = some (inB x a b, ()) := F48_eq x a b

abbrev FieldT : Type := Int × Int × Int × List (List (Nat × Nat)) × Unit
def atH (f : FieldT) (i : Nat) : List (Nat × Nat) := f.2.2.2.1.getD i []
def hourOk (f : FieldT) (i : Nat) : Bool := decide (((atH f i).length : Int) = IntKind.i64.wrap (f.1 * f.2.1)) && hourB (atH f i)
def fieldOkB (f : FieldT) : Bool := inB f.1 2 12 && (inB f.2.1 2 12 && (inB f.2.2.1 10 100000 && (inB (f.2.2.2.1.length : Int) 1 24 && allFrom (hourOk f) 0 f.2.2.2.1.length)))
theorem atH_len {f : FieldT} (h : HoursG f.2.2.2.1) (i : Nat) : (atH f i).length ≤ 6 := by
  unfold atH
  rw [List.getD_eq_getElem?_getD]
  by_cases hi : i < f.2.2.2.1.length
  · rw [List.getElem?_eq_getElem hi]
    exact h.2 _ (List.getElem_mem hi)
  · rw [List.getElem?_eq_none (by omega)]
    exact Nat.zero_le _

theorem F34_eq (f : FieldT) (h : HoursG f.2.2.2.1) : F34 (f, ()) = some (fieldOkB f, ()) := by
  obtain ⟨a, b, m, hs, _⟩ := f
  have hlen : hs.length ≤ 8 := h.1
  have hl : l34_4 (((), hs, (hs.length : Int), (0 : Int), ()), (a, b, m, hs, ()), ()) = some (bif allFrom (hourOk (a, b, m, hs, ())) 0 hs.length then .inl ((), ()) else .inr ((false, ()), ())) := by
    refine (iter_allB (q := q34_4 K48 G48 K77 G77) (fun k => (((), hs, (hs.length : Int), (k : Int), ()), (a, b, m, hs, ()), ())) hs.length (hourOk (a, b, m, hs, ())) _ _ ?_ ?_ _ ?_ : _)
    · intro k f hk
      unfold q34_4 hourOk
      have e1 : decide ((k : Int) < (hs.length : Int)) = true := by simpa using hk
      have e2 : decide (0 ≤ (k : Int)) = true := by simp
      have ha : List.getD hs k (zero (Ty.slice (Ty.cpx FloatKind.f32))) = atH (a, b, m, hs, ()) k := rfl
      have e3 : F77 (atH (a, b, m, hs, ()) k, ()) = some (hourB (atH (a, b, m, hs, ()) k), ()) := F77_eq _ (atH_len h k)
      simp only [w64n k (by omega), e1, e2, Bool.and_self, cond_true, Int.toNat_natCast, ha, K77, G77, e3, Option.isSome_some, Option.getD_some]
      by_cases hc : ((atH (a, b, m, hs, ()) k).length : Int) = IntKind.i64.wrap (a * b)
      · simp only [hc, bne_self_eq_false, cond_false, decide_true, Bool.true_and]
        cases hourB (atH (a, b, m, hs, ()) k) <;> rfl
      · have : (((atH (a, b, m, hs, ()) k).length : Int) != IntKind.i64.wrap (a * b)) = true := by simpa using hc
        simp only [this, hc, cond_true, decide_false, Bool.false_and, cond_false]
    · intro f
      simp [q34_4]
    · simp only [b34_4]; omega
  have i1 : F48 (a, 2, 12, ()) = some (inB a 2 12, ()) := F48_eq _ _ _
  have i2 : F48 (b, 2, 12, ()) = some (inB b 2 12, ()) := F48_eq _ _ _
  have i3 : F48 (m, 10, 100000, ()) = some (inB m 10 100000, ()) := F48_eq _ _ _
  have i4 : F48 ((hs.length : Int), 1, 24, ()) = some (inB (hs.length : Int) 1 24, ()) := F48_eq _ _ _
  unfold F34 r34 fieldOkB
  simp only [K48, G48, i1, i2, i3, i4, kL34_4, tL34_4, yL34_4, hl, Option.isSome_some, Option.getD_some, cond_true]
  cases inB a 2 12 <;> cases inB b 2 12 <;> cases inB m 10 100000 <;> cases inB (hs.length : Int) 1 24 <;> cases allFrom (hourOk (a, b, m, hs, ())) 0 hs.length <;> rfl

end Go.Proofs.Ytmmdjajebmihhaa.AM

/- Plainly: what a field of winds must meet, the other side. Conditions: short lists. -/
namespace Go.Proofs.Ytmmdjajebmihhaa.AM
open Go Go.Proofs
set_option linter.unusedVariables false

theorem hour38 (f : FieldT) (h : HoursG f.2.2.2.1) (k : Nat) (hk : k < f.2.2.2.1.length) : l38_9 (((), (k : Int), (0 : Int), ()), (f, ())) = some (bif hourB (atH f k) then .inl (((), (k : Int), ()), (f, ())) else .inr ((false, ()), ())) := by
  have h6 := atH_len h k
  obtain ⟨a, b, m, hs, _⟩ := f
  have hk : k < hs.length := hk
  have h6 : (atH (a, b, m, hs, ()) k).length ≤ 6 := h6
  refine (iter_allB (q := q38_9 K39 G39 K78 G78) (fun j => (((), (k : Int), (j : Int), ()), ((a, b, m, hs, ()), ()))) (atH (a, b, m, hs, ()) k).length (fun i => velB (atV (atH (a, b, m, hs, ()) k) i)) _ _ ?_ ?_ _ ?_ : _)
  · intro j f hj
    unfold q38_9
    have e1 : decide ((k : Int) < (hs.length : Int)) = true := by simpa using hk
    have e2 : decide (0 ≤ (k : Int)) = true := by simp
    have e4 : decide ((j : Int) < ((atH (a, b, m, hs, ()) k).length : Int)) = true := by simpa using hj
    have e5 : decide (0 ≤ (j : Int)) = true := by simp
    have ha : List.getD hs k (zero (Ty.slice (Ty.cpx FloatKind.f32))) = atH (a, b, m, hs, ()) k := rfl
    have hb : ∀ l : List (Nat × Nat), List.getD l j (zero (Ty.cpx FloatKind.f32)) = atV l j := fun _ => rfl
    have e3 : F78 (atV (atH (a, b, m, hs, ()) k) j, ()) = some (velB (atV (atH (a, b, m, hs, ()) k) j), ()) := F78_eq _
    simp only [w64n j (by omega), e1, e2, Bool.and_self, cond_true, Int.toNat_natCast, ha]
    have hb' : List.getD (atH (a, b, m, hs, ()) k) j (zero (Ty.cpx FloatKind.f32)) = atV (atH (a, b, m, hs, ()) k) j := rfl
    simp only [e4, e5, Bool.and_self, cond_true, hb', K78, G78, e3, Option.isSome_some, Option.getD_some]
    cases velB (atV (atH (a, b, m, hs, ()) k) j) <;> rfl
  · intro f
    unfold q38_9
    have e1 : decide ((k : Int) < (hs.length : Int)) = true := by simpa using hk
    have e2 : decide (0 ≤ (k : Int)) = true := by simp
    have ha : List.getD hs k (zero (Ty.slice (Ty.cpx FloatKind.f32))) = atH (a, b, m, hs, ()) k := rfl
    simp only [e1, e2, Bool.and_self, cond_true, Int.toNat_natCast, ha, Int.lt_irrefl, decide_false, cond_false]
  · simp only [b38_9]; omega

theorem F38_eq (f : FieldT) (h : HoursG f.2.2.2.1) : F38 (f, ()) = some (fieldOkB f, ()) := by
  have h38 := hour38 f h
  obtain ⟨a, b, m, hs, _⟩ := f
  have hlen : hs.length ≤ 8 := h.1
  have hl : l38_4 (((), (0 : Int), ()), (a, b, m, hs, ()), ()) = some (bif allFrom (hourOk (a, b, m, hs, ())) 0 hs.length then .inl ((), ()) else .inr ((false, ()), ())) := by
    refine (iter_allB (q := q38_4 K39 G39 K78 G78 kL38_9 xL38_9 tL38_9 yL38_9) (fun k => (((), (k : Int), ()), (a, b, m, hs, ()), ())) hs.length (hourOk (a, b, m, hs, ())) _ _ ?_ ?_ _ ?_ : _)
    · intro k f hk
      have e3 : l38_9 (((), (k : Int), (0 : Int), ()), ((a, b, m, hs, ()), ())) = some (bif hourB (atH (a, b, m, hs, ()) k) then .inl (((), (k : Int), ()), ((a, b, m, hs, ()), ())) else .inr ((false, ()), ())) := h38 k hk
      unfold q38_4 hourOk
      have e1 : decide ((k : Int) < (hs.length : Int)) = true := by simpa using hk
      have e2 : decide (0 ≤ (k : Int)) = true := by simp
      have ha : List.getD hs k (zero (Ty.slice (Ty.cpx FloatKind.f32))) = atH (a, b, m, hs, ()) k := rfl
      simp only [e1, e2, Bool.and_self, cond_true, Int.toNat_natCast, ha, kL38_9, tL38_9, xL38_9, yL38_9, e3, Option.isSome_some]
      by_cases hc : ((atH (a, b, m, hs, ()) k).length : Int) = IntKind.i64.wrap (a * b)
      · simp only [hc, bne_self_eq_false, cond_false, decide_true, Bool.true_and]
        cases hourB (atH (a, b, m, hs, ()) k)
        · rfl
        · simp only [cond_true, isR, xOf, cond_false, w64n k (by omega)]
      · have : (((atH (a, b, m, hs, ()) k).length : Int) != IntKind.i64.wrap (a * b)) = true := by simpa using hc
        simp only [this, hc, cond_true, decide_false, Bool.false_and, cond_false]
    · intro f
      simp [q38_4]
    · simp only [b38_4]; omega
  have i1 : F39 (a, 2, 12, ()) = some (inB a 2 12, ()) := F39_eq _ _ _
  have i2 : F39 (b, 2, 12, ()) = some (inB b 2 12, ()) := F39_eq _ _ _
  have i3 : F39 (m, 10, 100000, ()) = some (inB m 10 100000, ()) := F39_eq _ _ _
  have i4 : F39 ((hs.length : Int), 1, 24, ()) = some (inB (hs.length : Int) 1 24, ()) := F39_eq _ _ _
  unfold F38 r38 fieldOkB
  simp only [K39, G39, i1, i2, i3, i4, kL38_4, tL38_4, yL38_4, hl, Option.isSome_some, Option.getD_some, cond_true]
  cases inB a 2 12 <;> cases inB b 2 12 <;> cases inB m 10 100000 <;> cases inB (hs.length : Int) 1 24 <;> cases allFrom (hourOk (a, b, m, hs, ())) 0 hs.length <;> rfl

/-! ## Where a node lies -/

def pos (f : FieldT) (n : Int) : Nat × Nat := (FloatKind.nearest .f64 (IntKind.i64.wrap (IntKind.i64.wrap (Int.tdiv n f.1) * f.2.2.1)), FloatKind.nearest .f64 (IntKind.i64.wrap (Int.tmod n f.1 * f.2.2.1)))
def hasB (f : FieldT) (n : Int) : Bool := inB n 0 (IntKind.i64.wrap (IntKind.i64.wrap (f.1 * f.2.1) - 1))
def nodeV (f : FieldT) (n : Int) : (Nat × Nat) × Bool × Unit := bif fieldOkB f && hasB f n then (pos f n, true, ()) else ((0, 0), false, ())
theorem okB_wide {f : FieldT} (h : fieldOkB f = true) : inB f.1 2 12 = true ∧ inB f.2.1 2 12 = true ∧ inB f.2.2.1 10 100000 = true ∧ inB (f.2.2.2.1.length : Int) 1 24 = true ∧ allFrom (hourOk f) 0 f.2.2.2.1.length = true := by
  unfold fieldOkB at h
  simpa only [Bool.and_eq_true] using h
theorem F36_eq (f : FieldT) (n : Int) (h : f.1 ≠ 0) : F36 (f, n, ()) = some (pos f n, ()) := by
  have : (f.1 != 0) = true := by simpa using h
  unfold F36 r36
  simp only [this, cond_true]
  rfl
theorem F40_eq (f : FieldT) (n : Int) (h : f.1 ≠ 0) : F40 (f, n, ()) = some (pos f n, ()) := F36_eq f n h
theorem F35_eq (f : FieldT) (n : Int) : F35 (f, n, ()) = some (hasB f n, ()) := by
  have e : F48 (n, 0, IntKind.i64.wrap (IntKind.i64.wrap (f.1 * f.2.1) - 1), ()) = some (hasB f n, ()) := F48_eq _ _ _
  unfold F35 r35
  simp only [K48, G48, e, Option.isSome_some, Option.getD_some, cond_true]
theorem wide_ne {f : FieldT} (h : fieldOkB f = true) : f.1 ≠ 0 := by
  have := (okB_wide h).1
  simp only [inB, Bool.and_eq_true, decide_eq_true_eq] at this
  omega
theorem F9_eq (f : FieldT) (n : Int) (h : HoursG f.2.2.2.1) : F9 (f, n, ()) = some (nodeV f n) := by
  have e1 : F34 (f, ()) = some (fieldOkB f, ()) := F34_eq f h
  have e2 := F35_eq f n
  unfold F9 r9 nodeV
  simp only [K34, G34, e1, K35, G35, e2, Option.isSome_some, Option.getD_some, cond_true]
  cases hb : fieldOkB f with
  | false => rfl
  | true =>
    have e3 := F36_eq f n (wide_ne hb)
    simp only [K36, G36, e3, Option.isSome_some, Option.getD_some, cond_true]
    cases hasB f n <;> rfl
theorem F11_eq (f : FieldT) (n : Int) (h : HoursG f.2.2.2.1) : F11 (f, n, ()) = some (nodeV f n) := by
  have e1 : F38 (f, ()) = some (fieldOkB f, ()) := F38_eq f h
  have e2 : F39 (n, 0, IntKind.i64.wrap (IntKind.i64.wrap (f.1 * f.2.1) - 1), ()) = some (hasB f n, ()) := F39_eq _ _ _
  unfold F11 r11 nodeV
  simp only [K38, G38, e1, K39, G39, e2, Option.isSome_some, Option.getD_some, cond_true]
  cases hb : fieldOkB f with
  | false => rfl
  | true =>
    have e3 := F40_eq f n (wide_ne hb)
    simp only [K40, G40, e3, Option.isSome_some, Option.getD_some, cond_true]
    cases hasB f n <;> rfl

end Go.Proofs.Ytmmdjajebmihhaa.AM

/- Plainly: the wind at a node. Conditions: short lists. -/
namespace Go.Proofs.Ytmmdjajebmihhaa.AM
open Go Go.Proofs
set_option linter.unusedVariables false

def air (f : FieldT) (i n : Nat) : Nat × Nat := atV (atH f i) n
def hourOf (f : FieldT) (t : Int) : Int := imin (IntKind.i64.wrap (Int.tdiv t 3600)) (IntKind.i64.wrap ((f.2.2.2.1.length : Int) - 1))
def windV (f : FieldT) (n t : Int) : (Nat × Nat) × Bool × Unit := bif fieldOkB f && (hasB f n && inB t 0 10000000) then (air f (hourOf f t).toNat n.toNat, true, ()) else ((0, 0), false, ())
theorem F37_eq (t : Int) : F37 (t, ()) = some (inB t 0 10000000, ()) := by
  have e : F48 (t, 0, 10000000, ()) = some (inB t 0 10000000, ()) := F48_eq _ _ _
  unfold F37 r37
  simp only [K48, G48, e, Option.isSome_some, Option.getD_some, cond_true]

/-- A node that a field has lies within each hour. -/
theorem node_in {f : FieldT} (h : fieldOkB f = true) {n : Int} (hn : hasB f n = true) {i : Nat} (hi : i < f.2.2.2.1.length) : 0 ≤ n ∧ n < ((atH f i).length : Int) := by
  obtain ⟨h1, h2, h3, h4, h5⟩ := okB_wide h
  have h6 := allFrom_iff.1 h5 i (Nat.zero_le _) (by omega)
  simp only [hourOk, Bool.and_eq_true, decide_eq_true_eq] at h6
  simp only [inB, Bool.and_eq_true, decide_eq_true_eq] at h1 h2
  simp only [hasB, inB, Bool.and_eq_true, decide_eq_true_eq] at hn
  have ha : 0 ≤ f.1 * f.2.1 := Int.mul_nonneg (by omega) (by omega)
  have hb : f.1 * f.2.1 ≤ 12 * 12 := Int.mul_le_mul h1.2 h2.2 (by omega) (by omega)
  have e1 : IntKind.i64.wrap (f.1 * f.2.1) = f.1 * f.2.1 := w64 (by omega) (by omega)
  rw [e1] at h6 hn
  rw [w64 (by omega) (by omega)] at hn
  omega
theorem hour_in {f : FieldT} (h : fieldOkB f = true) {t : Int} (ht : inB t 0 10000000 = true) : 0 ≤ hourOf f t ∧ hourOf f t < (f.2.2.2.1.length : Int) := by
  obtain ⟨h1, h2, h3, h4, h5⟩ := okB_wide h
  simp only [inB, Bool.and_eq_true, decide_eq_true_eq] at h4 ht
  have e : Int.tdiv t 3600 = t / 3600 := Int.tdiv_eq_ediv_of_nonneg ht.1
  unfold hourOf
  rw [e, w64 (x := t / 3600) (by omega) (by omega), w64 (x := (f.2.2.2.1.length : Int) - 1) (by omega) (by omega)]
  unfold imin
  split <;> omega
theorem F10_eq (f : FieldT) (n t : Int) (h : HoursG f.2.2.2.1) : F10 (f, n, t, ()) = some (windV f n t) := by
  have e1 : F34 (f, ()) = some (fieldOkB f, ()) := F34_eq f h
  have e2 : F35 (f, n, ()) = some (hasB f n, ()) := F35_eq f n
  have e3 : F37 (t, ()) = some (inB t 0 10000000, ()) := F37_eq t
  unfold F10 r10 windV
  simp only [K34, G34, e1, K35, G35, e2, K37, G37, e3, Option.isSome_some, Option.getD_some, cond_true]
  cases hb : fieldOkB f with
  | false => rfl
  | true =>
  cases hn : hasB f n with
  | false => rfl
  | true =>
  cases ht : inB t 0 10000000 with
  | false => rfl
  | true =>
    obtain ⟨q1, q2⟩ := hour_in hb ht
    have hi : (hourOf f t).toNat < f.2.2.2.1.length := by omega
    obtain ⟨q3, q4⟩ := node_in hb hn hi
    have d1 : (decide (0 ≤ hourOf f t) && decide (hourOf f t < (f.2.2.2.1.length : Int))) = true := by simp only [Bool.and_eq_true, decide_eq_true_eq]; exact ⟨q1, q2⟩
    have d2 : (decide (0 ≤ n) && decide (n < ((atH f (hourOf f t).toNat).length : Int))) = true := by simp only [Bool.and_eq_true, decide_eq_true_eq]; exact ⟨q3, q4⟩
    show (bif (decide (0 ≤ hourOf f t) && decide (hourOf f t < (f.2.2.2.1.length : Int))) then
      bif (decide (0 ≤ n) && decide (n < ((atH f (hourOf f t).toNat).length : Int))) then some (air f (hourOf f t).toNat n.toNat, true, ()) else none else none) = _
    rw [d1, cond_true, d2, cond_true]
    rfl

end Go.Proofs.Ytmmdjajebmihhaa.AM

/- Plainly: a wind is the same as itself. Conditions: none. -/
namespace Go.Proofs.Ytmmdjajebmihhaa.AM
open Go Go.Proofs
set_option linter.unusedVariables false

/-- What a comparison with itself says of a double. -/
theorem same_self (s : Nat) (h : feq .f64 s 0 = true → feq .f64 (farith .quo .f64 4607182418800017408 s) (farith .quo .f64 4607182418800017408 s) = true) : F65 (s, s, ()) = some (true, ()) := by
  unfold F65 r65
  dsimp only
  cases h1 : feq .f64 s s with
  | false => rfl
  | true =>
    cases h2 : feq .f64 s 0 with
    | false => rfl
    | true =>
      simp only [Bool.not_true, cond_false, cond_true, h h2]

theorem read_zero : Ieee.double.read 0 = .number false 0 (-1074) := by decide
theorem zero_read {s : Nat} (h : feq .f64 s 0 = true) : ∃ g e, Ieee.double.read s = .number g 0 e := by
  have o : FloatKind.f64.format.order s 0 = (Ieee.double.read s).order (Ieee.double.read 0) := rfl
  unfold feq at h
  rw [o, read_zero] at h
  cases hr : Ieee.double.read s with
  | nan a b => rw [hr] at h; simp [Ieee.Datum.order] at h
  | infinity a => rw [hr] at h; cases a <;> simp [Ieee.Datum.order] at h
  | number g m e =>
    rw [hr] at h
    simp only [Ieee.Datum.order, beq_iff_eq, Option.some.injEq, Int.compare_eq_ite_lt] at h
    have h0 : Ieee.signed g m (e - min e (-1074)).toNat = 0 := by
      have hz : Ieee.signed false 0 (-1074 - min e (-1074)).toNat = 0 := by simp [Ieee.signed]
      rw [hz] at h
      by_cases h1 : Ieee.signed g m (e - min e (-1074)).toNat < 0
      · rw [if_pos h1] at h; cases h
      · rw [if_neg h1] at h
        by_cases h2 : 0 < Ieee.signed g m (e - min e (-1074)).toNat
        · rw [if_pos h2] at h; cases h
        · omega
    have hm : m = 0 := by
      unfold Ieee.signed at h0
      rw [Nat.shiftLeft_eq] at h0
      have h1 : m * 2 ^ (e - min e (-1074)).toNat = 0 := by
        cases g
        · simp only [Bool.false_eq_true, if_false] at h0; omega
        · simp only [if_true] at h0; omega
      rcases Nat.mul_eq_zero.1 h1 with h2 | h2
      · exact h2
      · have := Nat.two_pow_pos (e - min e (-1074)).toNat; omega
    subst hm
    exact ⟨g, e, rfl⟩

theorem quo_zero {s : Nat} (h : feq .f64 s 0 = true) : feq .f64 (farith .quo .f64 4607182418800017408 s) (farith .quo .f64 4607182418800017408 s) = true := by
  obtain ⟨g, e, hr⟩ := zero_read h
  have h1 : ∃ m i, Ieee.double.read 4607182418800017408 = .number false m i ∧ m ≠ 0 := ⟨2 ^ 52, -52, by decide, by decide⟩
  obtain ⟨m, i, h1, hm⟩ := h1
  have e1 : FloatKind.f64.format.div 4607182418800017408 s = some (Ieee.double.write (.infinity g)) := by
    show ((Ieee.double.read 4607182418800017408).quotient _ (Ieee.double.read s)).map Ieee.double.write = _
    rw [hr, h1]
    simp [Ieee.Datum.quotient, hm]
  have e2 : farith .quo .f64 4607182418800017408 s = Ieee.double.write (.infinity g) := by
    show (FloatKind.f64.format.div 4607182418800017408 s).getD _ = _
    rw [e1]; rfl
  rw [e2]
  cases g <;> decide

theorem F65_eq (s : Nat) : F65 (s, s, ()) = some (true, ()) := same_self s quo_zero
theorem F24_eq (c : Nat × Nat) : F24 (c, c, ()) = some (true, ()) := by
  have e1 : F65 (c.1, c.1, ()) = some (true, ()) := F65_eq _
  have e2 : F65 (c.2, c.2, ()) = some (true, ()) := F65_eq _
  unfold F24 r24
  simp only [K65, G65, e1, e2, Option.isSome_some, Option.getD_some, cond_true]
theorem F13_eq (c : Nat × Nat) : F13 (c, c, ()) = some (true, ()) := by
  have e1 := F24_eq ((convF FloatKind.f32 FloatKind.f64 c.1).snd, (convF FloatKind.f32 FloatKind.f64 c.2).snd)
  unfold F13 r13
  simp only [K24, G24, e1, Option.isSome_some, Option.getD_some, cond_true]

end Go.Proofs.Ytmmdjajebmihhaa.AM

/- Plainly: doubles: what a word reads as, orders. Conditions: those that each lemma names. -/
namespace Go.Proofs.Ytmmdjajebmihhaa.AM
open Go Go.Proofs
set_option linter.unusedVariables false

theorem d_sw : Ieee.double.signWeight = 2 ^ 63 := by decide
theorem d_inf : Ieee.double.infRung = 2047 * 2 ^ 52 := by decide
theorem d_bin : Ieee.double.binade = 2 ^ 52 := by decide
theorem d_lp : Ieee.double.leastPlace = -1074 := by decide
theorem d_fb : Ieee.double.fractionBits = 52 := by decide

theorem readD_word (neg : Bool) (K e : Nat) (h1 : e * 2 ^ 52 + K < 2047 * 2 ^ 52) (h2 : (e = 0 ∧ K ≤ 2 ^ 53) ∨ (2 ^ 52 ≤ K ∧ K ≤ 2 ^ 53)) :
    ∃ (m : Nat) (c : Nat), Ieee.double.read (Ieee.double.word neg (e * 2 ^ 52 + K)) = .number neg m ((c : Int) - 1074) ∧ m * 2 ^ c = K * 2 ^ e := by
  have hr : Ieee.double.word neg (e * 2 ^ 52 + K) % Ieee.double.signWeight = e * 2 ^ 52 + K := by
    unfold Ieee.Format.word
    rw [d_sw]
    split <;> omega
  have hn : (Ieee.double.word neg (e * 2 ^ 52 + K) / Ieee.double.signWeight % 2 == 1) = neg := by
    unfold Ieee.Format.word
    rw [d_sw]
    cases neg
    · rw [if_neg (by decide)]
      have : (e * 2 ^ 52 + K) / 2 ^ 63 = 0 := Nat.div_eq_of_lt (by omega)
      rw [this]; rfl
    · rw [if_pos rfl]
      have : (2 ^ 63 + (e * 2 ^ 52 + K)) / 2 ^ 63 = 1 := by omega
      rw [this]; rfl
  unfold Ieee.Format.read
  dsimp only
  rw [hr, hn, d_bin, d_inf, d_lp]
  by_cases c1 : e * 2 ^ 52 + K < 2 ^ 52
  · rw [if_pos c1]
    have : e = 0 := by omega
    subst this
    exact ⟨K, 0, by simp, by simp⟩
  · rw [if_neg c1, if_pos h1]
    by_cases c2 : K < 2 ^ 52
    · exfalso; omega
    by_cases c3 : K = 2 ^ 53
    · have e1 : (e * 2 ^ 52 + K) / 2 ^ 52 = e + 2 := by omega
      have e2 : (e * 2 ^ 52 + K) % 2 ^ 52 = 0 := by omega
      rw [e1, e2]
      refine ⟨2 ^ 52, e + 1, ?_, ?_⟩
      · rw [show ((-1074 : Int) + ((e + 2 - 1 : Nat) : Int)) = ((e + 1 : Nat) : Int) - 1074 by omega, Nat.add_zero]
      · rw [c3, ← Nat.pow_add, ← Nat.pow_add]
        congr 1
        omega
    · have e1 : (e * 2 ^ 52 + K) / 2 ^ 52 = e + 1 := by omega
      have e2 : (e * 2 ^ 52 + K) % 2 ^ 52 = K - 2 ^ 52 := by omega
      rw [e1, e2]
      refine ⟨K, e, ?_, rfl⟩
      rw [show ((-1074 : Int) + ((e + 1 - 1 : Nat) : Int)) = ((e : Nat) : Int) - 1074 by omega, show 2 ^ 52 + (K - 2 ^ 52) = K by omega]

/-- A number's value, in units of the least place. -/
def VU (s : Bool) (m c : Nat) : Int := if s then -((m * 2 ^ c : Nat) : Int) else ((m * 2 ^ c : Nat) : Int)
def isD (b : Nat) (v : Int) : Prop := ∃ (s : Bool) (m c : Nat), Ieee.double.read b = .number s m ((c : Int) - 1074) ∧ v = VU s m c

theorem signed_V (s : Bool) (m c d : Nat) (h : d ≤ c) : Ieee.signed s m (c - d) * ((2 ^ d : Nat) : Int) = VU s m c := by
  have e : m * 2 ^ (c - d) * 2 ^ d = m * 2 ^ c := by rw [Nat.mul_assoc, ← Nat.pow_add]; congr 2; omega
  unfold Ieee.signed VU
  rw [Nat.shiftLeft_eq]
  split
  · rw [Int.neg_mul, ← Int.natCast_mul, e]
  · rw [← Int.natCast_mul, e]

theorem cmp_mul (a b k : Int) (hk : 0 < k) : compare (a * k) (b * k) = compare a b := by
  have h1 : a * k < b * k ↔ a < b := Int.mul_lt_mul_right hk
  have h2 : b * k < a * k ↔ b < a := Int.mul_lt_mul_right hk
  rw [Int.compare_eq_ite_lt, Int.compare_eq_ite_lt]
  simp only [h1, h2]

theorem order_V (s t : Bool) (m n c d : Nat) : Ieee.Datum.order (.number s m ((c : Int) - 1074)) (.number t n ((d : Int) - 1074)) = some (compare (VU s m c) (VU t n d)) := by
  unfold Ieee.Datum.order
  dsimp only
  have e1 : (((c : Int) - 1074) - min ((c : Int) - 1074) ((d : Int) - 1074)).toNat = c - min c d := by omega
  have e2 : (((d : Int) - 1074) - min ((c : Int) - 1074) ((d : Int) - 1074)).toNat = d - min c d := by omega
  rw [e1, e2, ← signed_V s m c (min c d) (Nat.min_le_left _ _), ← signed_V t n d (min c d) (Nat.min_le_right _ _), cmp_mul]
  exact Int.natCast_pos.2 (Nat.two_pow_pos _)

theorem ordD {a b : Nat} {x y : Int} (ha : isD a x) (hb : isD b y) : FloatKind.f64.format.order a b = some (compare x y) := by
  obtain ⟨s, m, c, h1, rfl⟩ := ha
  obtain ⟨t, n, d, h2, rfl⟩ := hb
  show (Ieee.double.read a).order (Ieee.double.read b) = _
  rw [h1, h2]
  exact order_V s t m n c d


end Go.Proofs.Ytmmdjajebmihhaa.AM

/- Plainly: amounts of doubles; places and legs that are valid: both sides ask the same. Conditions: those that each lemma names. -/
namespace Go.Proofs.Ytmmdjajebmihhaa.AM
open Go Go.Proofs
set_option linter.unusedVariables false

/-! ## A double without its sign -/

def absD (d : Ieee.Datum) : Ieee.Datum := match d with
  | .number _ m e => .number false m e
  | .infinity _ => .infinity false
  | .nan _ f => .nan false f

theorem read_abs (a : Nat) : Ieee.double.read (a % 2 ^ 63) = absD (Ieee.double.read a) := by
  unfold Ieee.Format.read
  dsimp only
  rw [d_sw]
  have e1 : a % 2 ^ 63 % 2 ^ 63 = a % 2 ^ 63 := Nat.mod_mod _ _
  have e2 : (a % 2 ^ 63 / 2 ^ 63 % 2 == 1) = false := by
    have : a % 2 ^ 63 / 2 ^ 63 = 0 := Nat.div_eq_of_lt (Nat.mod_lt _ (by decide))
    rw [this]; rfl
  rw [e1, e2]
  split
  · rfl
  · split
    · rfl
    · split <;> rfl

theorem read_neg (a : Nat) : Ieee.double.read (fneg .f64 a) = (Ieee.double.read a).opposite := by
  have hf : fneg .f64 a = a ^^^ 2 ^ 63 := rfl
  rw [hf]
  unfold Ieee.Format.read
  dsimp only
  rw [d_sw]
  have e1 : (a ^^^ 2 ^ 63) % 2 ^ 63 = a % 2 ^ 63 := by rw [Nat.xor_mod_two_pow, Nat.mod_self, Nat.xor_zero]
  have e2 : ((a ^^^ 2 ^ 63) / 2 ^ 63 % 2 == 1) = !(a / 2 ^ 63 % 2 == 1) := by
    rw [Nat.xor_div_two_pow, Nat.div_self (by decide)]
    have h1 : (a / 2 ^ 63 ^^^ 1) % 2 = (a / 2 ^ 63 % 2) ^^^ 1 := by
      have := Nat.xor_mod_two_pow (a := a / 2 ^ 63) (b := 1) (n := 1)
      simpa using this
    rw [h1]
    rcases Nat.mod_two_eq_zero_or_one (a / 2 ^ 63) with h | h <;> rw [h] <;> rfl
  rw [e1, e2]
  split
  · rfl
  · split
    · rfl
    · split <;> rfl

def amtD (a : Nat) : Nat := bif flt .f64 a 0 then fneg .f64 a else a

theorem amt_order (a c : Nat) : FloatKind.f64.format.order (amtD a) c = FloatKind.f64.format.order (a % 2 ^ 63) c := by
  show (Ieee.double.read (amtD a)).order (Ieee.double.read c) = (Ieee.double.read (a % 2 ^ 63)).order (Ieee.double.read c)
  rw [read_abs]
  have h0 : flt .f64 a 0 = ((Ieee.double.read a).order (Ieee.double.read 0) == some .lt) := rfl
  unfold amtD
  rw [h0, read_zero]
  generalize Ieee.double.read c = d
  cases hr : Ieee.double.read a with
  | nan s f =>
    have : ((Ieee.Datum.nan s f).order (.number false 0 (-1074)) == some Ordering.lt) = false := rfl
    rw [this, cond_false, hr]
    cases d <;> rfl
  | infinity s =>
    cases s with
    | true =>
      have : ((Ieee.Datum.infinity true).order (.number false 0 (-1074)) == some Ordering.lt) = true := rfl
      rw [this, cond_true, read_neg, hr]
      rfl
    | false =>
      have : ((Ieee.Datum.infinity false).order (.number false 0 (-1074)) == some Ordering.lt) = false := rfl
      rw [this, cond_false, hr]
      rfl
  | number s m e =>
    cases s with
    | false =>
      have h1 : ((Ieee.Datum.number false m e).order (.number false 0 (-1074)) == some Ordering.lt) = false := by
        unfold Ieee.Datum.order Ieee.signed
        simp only [Bool.false_eq_true, if_false, Nat.zero_shiftLeft]
        have : ∀ x : Nat, (some (compare ((x : Nat) : Int) ((0 : Nat) : Int)) == some Ordering.lt) = false := by
          intro x
          rw [Int.compare_eq_ite_lt, if_neg (by omega)]
          split <;> rfl
        exact this _
      rw [h1, cond_false, hr]
      rfl
    | true =>
      cases h1 : ((Ieee.Datum.number true m e).order (.number false 0 (-1074)) == some Ordering.lt) with
      | true => rw [cond_true, read_neg, hr]; rfl
      | false =>
        rw [cond_false, hr]
        have hm : m = 0 := by
          unfold Ieee.Datum.order Ieee.signed at h1
          simp only [if_true, Bool.false_eq_true, if_false, Nat.zero_shiftLeft, Nat.shiftLeft_eq] at h1
          rcases Nat.eq_zero_or_pos m with h | h
          · exact h
          · exfalso
            have hp := Nat.mul_pos h (Nat.two_pow_pos (e - min e (-1074)).toNat)
            rw [Int.compare_eq_ite_lt, if_pos (by omega)] at h1
            cases h1
        subst hm
        unfold absD
        cases d with
        | number t n j =>
          unfold Ieee.Datum.order Ieee.signed
          simp
        | infinity t => rfl
        | nan t f => rfl

def le8 (a : Nat) : Bool := flt .f64 a 4726483295884279808 || feq .f64 a 4726483295884279808
theorem le8_amt (a : Nat) : le8 (amtD a) = le8 (a % 2 ^ 63) := by
  unfold le8 flt feq
  rw [amt_order]

def vecB (z : Nat × Nat) : Bool := le8 (z.1 % 2 ^ 63) && le8 (z.2 % 2 ^ 63)
theorem F41_eq (z : Nat × Nat) : F41 (z, ()) = some (vecB z, ()) := by
  unfold F41 r41 vecB
  simp only [K79, G79, cond_true]
  show (bif le8 (z.1 % 2 ^ 63) then some (le8 (z.2 % 2 ^ 63), ()) else some (false, ())) = _
  cases le8 (z.1 % 2 ^ 63) <;> rfl
theorem F64_eq (a : Nat) : F64 (a, ()) = some (amtD a, ()) := by
  unfold F64 r64 amtD
  cases flt .f64 a 0 <;> rfl
theorem F22_eq (z : Nat × Nat) : F22 (z, ()) = some (vecB z, ()) := by
  unfold F22 r22 vecB
  have e1 : F64 (z.1, ()) = some (amtD z.1, ()) := F64_eq z.1
  have e2 : F64 (z.2, ()) = some (amtD z.2, ()) := F64_eq z.2
  simp only [K64, G64, e1, e2, Option.isSome_some, Option.getD_some, cond_true]
  show (bif le8 (amtD z.1) then some (le8 (amtD z.2), ()) else some (false, ())) = _
  rw [le8_amt, le8_amt]
  cases le8 (z.1 % 2 ^ 63) <;> rfl

/-! ## Legs -/

abbrev LegT : Type := Int × Nat × Int × Unit
def paceB (x : Nat) : Bool := (fgt .f32 x 0 || feq .f32 x 0) && (flt .f32 x 1112014848 || feq .f32 x 1112014848)
def legB (g : LegT) : Bool := paceB g.2.1 && inB g.2.2.1 0 100000
theorem F109_eq (x : Nat) : F109 (x, ()) = some (paceB x, ()) := by
  unfold F109 r109 paceB
  show (bif (fgt .f32 x 0 || feq .f32 x 0) then some ((flt .f32 x 1112014848 || feq .f32 x 1112014848), ()) else some (false, ())) = _
  cases (fgt .f32 x 0 || feq .f32 x 0) <;> rfl
theorem F92_eq (g : LegT) : F92 (g, ()) = some (legB g, ()) := by
  have e1 : F109 (g.2.1, ()) = some (paceB g.2.1, ()) := F109_eq _
  have e2 : F48 (g.2.2.1, 0, 100000, ()) = some (inB g.2.2.1 0 100000, ()) := F48_eq _ _ _
  unfold F92 r92 legB
  simp only [K109, G109, e1, K48, G48, e2, Option.isSome_some, Option.getD_some, cond_true]
  cases paceB g.2.1 <;> rfl
theorem F23_eq (g : LegT) : F23 (g, ()) = some (legB g, ()) := by
  have e2 : F39 (g.2.2.1, 0, 100000, ()) = some (inB g.2.2.1 0 100000, ()) := F39_eq _ _ _
  unfold F23 r23 legB paceB
  simp only [K39, G39, e2, Option.isSome_some, Option.getD_some, cond_true]
  show (bif (fgt .f32 g.2.1 0 || feq .f32 g.2.1 0) then (bif (flt .f32 g.2.1 1112014848 || feq .f32 g.2.1 1112014848) then some (inB g.2.2.1 0 100000, ()) else some (false, ())) else some (false, ())) = _
  cases (fgt .f32 g.2.1 0 || feq .f32 g.2.1 0) <;> cases (flt .f32 g.2.1 1112014848 || feq .f32 g.2.1 1112014848) <;> rfl

def atG (l : List LegT) (i : Nat) : LegT := l.getD i (0, 0, 0, ())
def legsB (l : List LegT) : Bool := allFrom (fun i => legB (atG l i)) 0 l.length && decide ((l.length : Int) ≤ 50)
theorem F62_eq (l : List LegT) (h : l.length ≤ 51) : F62 (l, ()) = some (legsB l, ()) := by
  have hl : l62_2 ((l, l, (l.length : Int), (0 : Int), ()), ()) = some (bif allFrom (fun i => legB (atG l i)) 0 l.length then .inl ((l, ()), ()) else .inr ((false, ()), ())) := by
    refine (iter_allB (q := q62_2 K92 G92) (fun k => ((l, l, (l.length : Int), (k : Int), ()), ())) l.length (fun i => legB (atG l i)) _ _ ?_ ?_ _ ?_ : _)
    · intro k f hk
      unfold q62_2
      have e1 : decide ((k : Int) < (l.length : Int)) = true := by simpa using hk
      have e2 : decide (0 ≤ (k : Int)) = true := by simp
      have ha : List.getD l k (zero S53) = atG l k := rfl
      have e3 : F92 (atG l k, ()) = some (legB (atG l k), ()) := F92_eq _
      simp only [w64n k (by omega), e1, e2, Bool.and_self, cond_true, Int.toNat_natCast, ha, K92, G92, e3, Option.isSome_some, Option.getD_some]
      cases legB (atG l k) <;> rfl
    · intro f
      simp [q62_2]
    · simp only [b62_2]; omega
  unfold F62 r62 legsB
  simp only [kL62_2, tL62_2, yL62_2, xL62_2, hl, Option.isSome_some, cond_true]
  cases allFrom (fun i => legB (atG l i)) 0 l.length <;> rfl

end Go.Proofs.Ytmmdjajebmihhaa.AM

/- Plainly: legs of no seconds; the law FnTideStill, in plain terms. Conditions: none. -/
namespace Go.Proofs.Ytmmdjajebmihhaa.AM
open Go Go.Proofs
set_option linter.unusedVariables false

def kTru (y : Den (.cons .bool .nil)) : Option Unit := bif y.1 then some () else none
theorem kTru_ok : ∀ y, kTru y = some () → y = (true, ()) := by
  rintro ⟨b, _⟩ h
  cases b
  · cases h
  · rfl
theorem F7_all (x : Den A7) : F7 x = some (decide ((x.1.length : Int) > 1048576), ()) := rfl

def idle (g : LegT) : LegT := (g.1, g.2.1, 0, ())
theorem idle_at (l : List LegT) (k : Nat) (h : k < l.length) : atG (l.map idle) k = idle (atG l k) := by
  unfold atG
  rw [List.getD_eq_getElem?_getD, List.getD_eq_getElem?_getD, List.getElem?_map, List.getElem?_eq_getElem h]
  rfl
theorem idle_step (l : List LegT) (k : Nat) (h : k < l.length) : (l.mapIdx fun i g => if i < k then idle g else g).set k (idle (atG l k)) = l.mapIdx fun i g => if i < k + 1 then idle g else g := by
  apply List.ext_getElem?
  intro j
  rw [List.getElem?_set, List.getElem?_mapIdx, List.getElem?_mapIdx, List.length_mapIdx]
  by_cases e : k = j
  · subst e
    rw [if_pos rfl, if_pos h, List.getElem?_eq_getElem h]
    unfold atG
    rw [List.getD_eq_getElem?_getD, List.getElem?_eq_getElem h]
    simp
  · rw [if_neg e]
    cases l[j]? with
    | none => rfl
    | some g =>
      simp only [Option.map_some]
      by_cases h1 : j < k
      · rw [if_pos h1, if_pos (by omega)]
      · rw [if_neg h1, if_neg (by omega)]
theorem idle_get (l : List LegT) (k : Nat) (h : k < l.length) : ((l.mapIdx fun i g => if i < k then idle g else g).getD k (zero S53)) = atG l k := by
  unfold atG
  rw [List.getD_eq_getElem?_getD, List.getD_eq_getElem?_getD, List.getElem?_mapIdx, List.getElem?_eq_getElem h]
  simp

/-- All legs are set to no seconds. -/
theorem idle_loop (p : Nat × Nat) (t : Int) (l : List LegT) (td : Den S48) (h : l.length ≤ 51) : l5_5 ((p, t, (), (), 0, ()), l, td, ()) = some ((p, t, (), (), ()), l.map idle, td, ()) := by
  obtain ⟨st, hs, _⟩ := td
  have h0 : l = l.mapIdx fun i g => if i < 0 then idle g else g := by
    apply List.ext_getElem?
    intro j
    rw [List.getElem?_mapIdx]
    cases l[j]? <;> simp
  have h1 : l.map idle = l.mapIdx fun i g => if i < l.length then idle g else g := by
    apply List.ext_getElem?
    intro j
    rw [List.getElem?_mapIdx, List.getElem?_map]
    by_cases hj : j < l.length
    · rw [List.getElem?_eq_getElem hj, Option.map_some, Option.map_some, if_pos hj]
    · rw [List.getElem?_eq_none (by omega)]; rfl
  have e : ((p, t, (), (), ((0 : Nat) : Int), ()), (l.mapIdx fun i g => if i < 0 then idle g else g), (st, hs, ()), ()) = (((p, t, (), (), (0 : Int), ()), l, (st, hs, ()), ()) : V5_5) := by rw [← h0]; rfl
  have key : ∀ m, l.length < m → iter (q5_5 K7 G7 K20 G20 K21 G21 K22 G22 K23 G23 K24 G24) m ((p, t, (), (), (0 : Int), ()), l, (st, hs, ()), ()) = some ((p, t, (), (), ()), l.map idle, (st, hs, ()), ()) := by
    intro m hm
    rw [← e, h1]
    refine iter_all (q := q5_5 K7 G7 K20 G20 K21 G21 K22 G22 K23 G23 K24 G24) (fun k => ((p, t, (), (), (k : Int), ()), (l.mapIdx fun i g => if i < k then idle g else g), (st, hs, ()), ())) l.length
      ((p, t, (), (), ()), (l.mapIdx fun i g => if i < l.length then idle g else g), (st, hs, ()), ()) ?_ ?_ m hm
    · intro k f hk
      unfold q5_5
      have e1 : decide ((k : Int) < ((l.mapIdx fun i g => if i < k then idle g else g).length : Int)) = true := by rw [List.length_mapIdx]; simpa using hk
      have e2 : decide (0 ≤ (k : Int)) = true := by simp
      have e3 := idle_get l k hk
      have e4 := idle_step l k hk
      simp only [w64n k (by omega), e1, e2, Bool.and_self, cond_true, Int.toNat_natCast, e3]
      rw [← e4]
      rfl
    · intro f
      unfold q5_5
      have e1 : decide ((l.length : Int) < ((l.mapIdx fun i g => if i < l.length then idle g else g).length : Int)) = false := by rw [List.length_mapIdx]; simp
      simp only [e1, cond_false]
  unfold l5_5
  refine key _ ?_
  unfold b5_5
  simp only []
  omega

/-- A leg of no seconds is not sailed. -/
theorem no_leg (v : V21_7) (h : v.1.2.2.2.2.1 = 0) : l21_7 v = some (.inl ((v.1.1, v.1.2.1, (), v.1.2.2.2.2.2), v.2.1, ())) := by
  obtain ⟨⟨p, t, _, _, s, ls, n, i, _⟩, ⟨st, hs, _⟩, g, _⟩ := v
  have h : s = 0 := h
  subst h
  have hb : 0 < b21_7 ((p, t, (), (), 0, ls, n, i, ()), (st, hs, ()), g, ()) := by unfold b21_7; omega
  unfold l21_7
  obtain ⟨m, hm⟩ : ∃ m, b21_7 ((p, t, (), (), 0, ls, n, i, ()), (st, hs, ()), g, ()) = m + 1 := ⟨_, (Nat.succ_pred_eq_of_pos hb).symm⟩
  rw [hm]
  show q21_7 _ _ _ _ _ _ _ _ _ _ = _
  unfold q21_7
  rfl

theorem tide_loop (p : Nat × Nat) (t : Int) (l : List LegT) (td : Den S48) (h : l.length ≤ 51) : l21_4 ((p, t, (), l.map idle, ((l.map idle).length : Int), 0, ()), td, ()) = some (.inl ((p, ()), ())) := by
  obtain ⟨st, hs, _⟩ := td
  refine (iter_all (q := q21_4 K41 G41 K62 G62 K28 G28 K63 G63 kL21_7 xL21_7 tL21_7 yL21_7) (fun k => ((p, t, (), l.map idle, ((l.map idle).length : Int), (k : Int), ()), (st, hs, ()), ())) (l.map idle).length (.inl ((p, ()), ())) ?_ ?_ _ ?_ : _)
  · intro k f hk
    have hk' : k < l.length := by rw [List.length_map] at hk; exact hk
    have e1 : decide ((k : Int) < ((l.map idle).length : Int)) = true := by simpa using hk'
    have e2 : decide (0 ≤ (k : Int)) = true := by simp
    have ha : List.getD (l.map idle) k (zero S53) = idle (atG l k) := idle_at l k hk'
    have e3 := no_leg ((p, t, (), (), (idle (atG l k)).2.2.1, l.map idle, ((l.map idle).length : Int), (k : Int), ()), (st, hs, ()), idle (atG l k), ()) rfl
    have e4 : kL21_7 ((p, t, (), (), (idle (atG l k)).2.2.1, l.map idle, ((l.map idle).length : Int), (k : Int), ()), (st, hs, ()), idle (atG l k), ()) = true := by unfold kL21_7; rw [e3]; rfl
    have e5 : tL21_7 ((p, t, (), (), (idle (atG l k)).2.2.1, l.map idle, ((l.map idle).length : Int), (k : Int), ()), (st, hs, ()), idle (atG l k), ()) = false := by unfold tL21_7; rw [e3]; rfl
    have e6 : xL21_7 ((p, t, (), (), (idle (atG l k)).2.2.1, l.map idle, ((l.map idle).length : Int), (k : Int), ()), (st, hs, ()), idle (atG l k), ()) = ((p, t, (), l.map idle, ((l.map idle).length : Int), (k : Int), ()), (st, hs, ()), ()) := by unfold xL21_7; rw [e3]; rfl
    unfold q21_4
    simp only [e1, e2, Bool.and_self, cond_true, Int.toNat_natCast, ha]
    rw [e4, cond_true, e5, cond_false, e6]
    simp only [w64n k (by omega)]
  · intro f
    unfold q21_4
    have e1 : decide (((l.map idle).length : Int) < ((l.map idle).length : Int)) = false := by simp
    simp only [e1, cond_false]
  · unfold b21_4
    show (l.map idle).length < _
    simp only []
    omega

theorem F21_eq (p : Nat × Nat) (t : Int) (l : List LegT) (td : Den S48) (h : l.length ≤ 51) : F21 (p, t, l.map idle, td, ()) = some (bif vecB p && legsB (l.map idle) then (p, true, ()) else ((0, 0), false, ())) := by
  have e1 : F41 (p, ()) = some (vecB p, ()) := F41_eq p
  have e2 : F62 (l.map idle, ()) = some (legsB (l.map idle), ()) := F62_eq _ (by rw [List.length_map]; exact h)
  have e3 := tide_loop p t l td h
  unfold F21 r21
  simp only [K41, G41, e1, K62, G62, e2, Option.isSome_some, Option.getD_some, cond_true]
  cases vecB p
  · rfl
  · cases legsB (l.map idle)
    · rfl
    · simp only [Bool.not_true, cond_false, kL21_4, tL21_4, xL21_4]
      rw [e3]
      rfl

theorem all_loop (p q : Nat × Nat) (ok b : Bool) (l : List LegT) (h : l.length ≤ 51) : l5_11 ((p, (), q, ok, b, 0, ()), l, ()) = some ((p, q, ok, b && allFrom (fun i => legB (atG l i)) 0 l.length, ()), ()) := by
  have gen : ∀ (n k : Nat) (b : Bool) (m : Nat), k + n = l.length → n < m → iter (q5_11 K7 G7 K20 G20 K21 G21 K22 G22 K23 G23 K24 G24) m ((p, (), q, ok, b, (k : Int), ()), l, ()) = some ((p, q, ok, b && allFrom (fun i => legB (atG l i)) k n, ()), ()) := by
    intro n
    induction n with
    | zero =>
      intro k b m hk hm
      obtain ⟨m', rfl⟩ : ∃ m', m = m' + 1 := ⟨m - 1, by omega⟩
      show q5_11 _ _ _ _ _ _ _ _ _ _ _ _ _ _ = _
      unfold q5_11
      have e1 : decide ((k : Int) < (l.length : Int)) = false := by simp; omega
      simp only [e1, cond_false, allFrom, Bool.and_true]
    | succ n ih =>
      intro k b m hk hm
      obtain ⟨m', rfl⟩ : ∃ m', m = m' + 1 := ⟨m - 1, by omega⟩
      show q5_11 _ _ _ _ _ _ _ _ _ _ _ _ (iter _ m') _ = _
      have hk' : k < l.length := by omega
      have e1 : decide ((k : Int) < (l.length : Int)) = true := by simpa using hk'
      have e2 : decide (0 ≤ (k : Int)) = true := by simp
      have ha : List.getD l k (zero S53) = atG l k := rfl
      have e3 : F23 (atG l k, ()) = some (legB (atG l k), ()) := F23_eq _
      generalize hF : iter (q5_11 K7 G7 K20 G20 K21 G21 K22 G22 K23 G23 K24 G24) m' = F
      unfold q5_11
      cases b with
      | false =>
        simp only [e1, cond_true, cond_false, w64n k (by omega), Bool.false_and]
        rw [← hF]
        have := ih (k + 1) false m' (by omega) (by omega)
        rw [Bool.false_and] at this
        exact this
      | true =>
        simp only [e1, e2, Bool.and_self, cond_true, Int.toNat_natCast, ha, K23, G23, e3, Option.isSome_some, Option.getD_some, w64n k (by omega), Bool.true_and, allFrom]
        rw [← hF]
        exact ih (k + 1) (legB (atG l k)) m' (by omega) (by omega)
  exact gen l.length 0 b _ (by omega) (by unfold b5_11; simp only []; omega)

set_option maxRecDepth 100000 in
theorem tideStill (x : Den A5) (w : Wf A5 x) : callN (Γ5 K7 G7 K20 G20 K21 G21 K22 G22 K23 G23 K24 G24 kL5_5 xL5_5 kL5_11 xL5_11) (N5 p20 Q20 e20) (bodyOf Try.f5) (decRH R5 kTru) (encA A5 x) [] = some () := by
  refine Eq.trans (evN5 _ _ _ _ _ _ _ _ _ _ _ _ _ _ _ _ _ _ _ kTru x) ?_
  unfold rN5
  simp only [K7, G7, F7_all, Option.isSome_some, Option.getD_some, cond_true]
  by_cases h0 : (x.1.length : Int) > 1048576
  · simp only [h0, decide_true, cond_true]; rfl
  simp only [h0, decide_false, cond_false]
  haveI := e20
  refine allK_intro fun g => ?_
  have hp : p20 (x, ()) = true := by show decide (x.1.length ≤ 1048576) = true; simp; omega
  have hq : (g.val (x, ())).2.1.length ≤ 51 := g.2 _ hp
  refine all_t hp ?_
  generalize g.val (x, ()) = d at *
  obtain ⟨⟨p, t, _, td, _⟩, l, _⟩ := d
  have hq : l.length ≤ 51 := hq
  have e5 := idle_loop p t l td hq
  have k5 : kL5_5 ((p, t, (), (), 0, ()), l, td, ()) = true := by unfold kL5_5; rw [e5]; rfl
  have x5 : xL5_5 ((p, t, (), (), 0, ()), l, td, ()) = ((p, t, (), (), ()), l.map idle, td, ()) := by unfold xL5_5; rw [e5]; rfl
  refine all_t k5 ?_
  rw [x5]
  have e21 := F21_eq p t l td hq
  have k21 : K21 (p, t, l.map idle, td, ()) = true := by unfold K21; rw [e21]; rfl
  have g21 : G21 (p, t, l.map idle, td, ()) = bif vecB p && legsB (l.map idle) then (p, true, ()) else ((0, 0), false, ()) := by unfold G21; rw [e21]; rfl
  refine all_t k21 ?_
  have hlen : (l.map idle).length ≤ 51 := by rw [List.length_map]; exact hq
  have z1 : feq FloatKind.f64 0 0 = true := by decide +kernel
  have e24 : F24 (p, p, ()) = some (true, ()) := F24_eq p
  have e22 : F22 (p, ()) = some (vecB p, ()) := F22_eq p
  simp only [g21, K22, G22, e22, Option.isSome_some, Option.getD_some, cond_true]
  have e11 := fun q ok b => all_loop p q ok b (l.map idle) hlen
  have k11 : ∀ q ok b, kL5_11 ((p, (), q, ok, b, 0, ()), l.map idle, ()) = true := fun q ok b => by unfold kL5_11; rw [e11]; rfl
  have x11 : ∀ q ok b, xL5_11 ((p, (), q, ok, b, 0, ()), l.map idle, ()) = ((p, q, ok, b && allFrom (fun i => legB (atG (l.map idle) i)) 0 (l.map idle).length, ()), ()) := fun q ok b => by unfold xL5_11; rw [e11]; rfl
  simp only [k11, x11, cond_true, K24, G24]
  unfold legsB
  by_cases h50 : ((l.map idle).length : Int) ≤ 50
  · simp only [h50, decide_true, cond_true, Bool.and_true]
    cases vecB p with
    | false => simp only [Bool.false_and, cond_false, beq_self_eq_true, cond_true, Bool.not_false, z1, Bool.and_self]; rfl
    | true =>
      cases allFrom (fun i => legB (atG (l.map idle) i)) 0 (l.map idle).length with
      | false => simp only [Bool.and_false, cond_false, beq_self_eq_true, cond_true, Bool.not_false, z1, Bool.and_self]; rfl
      | true => simp only [Bool.and_self, cond_true, beq_self_eq_true, Bool.not_true, cond_false, e24, Option.isSome_some, Option.getD_some]; rfl
  · simp only [h50, decide_false, cond_false, Bool.and_false, Bool.false_and, beq_self_eq_true, cond_true, Bool.not_false, z1, Bool.and_self]; rfl

end Go.Proofs.Ytmmdjajebmihhaa.AM

/- Plainly: tides: what both sides ask of them and tell of them is the same. Conditions: short lists. -/
namespace Go.Proofs.Ytmmdjajebmihhaa.AM
open Go Go.Proofs
set_option linter.unusedVariables false

def flows (s : Den S96) : List (Nat × Nat) := [s.snd.fst.fst, s.snd.fst.snd.fst, s.snd.fst.snd.snd.fst, s.snd.fst.snd.snd.snd.fst, s.snd.fst.snd.snd.snd.snd.fst, s.snd.fst.snd.snd.snd.snd.snd.fst, s.snd.fst.snd.snd.snd.snd.snd.snd.fst, s.snd.fst.snd.snd.snd.snd.snd.snd.snd.fst, s.snd.fst.snd.snd.snd.snd.snd.snd.snd.snd.fst, s.snd.fst.snd.snd.snd.snd.snd.snd.snd.snd.snd.fst, s.snd.fst.snd.snd.snd.snd.snd.snd.snd.snd.snd.snd.fst, s.snd.fst.snd.snd.snd.snd.snd.snd.snd.snd.snd.snd.snd.fst, s.snd.fst.snd.snd.snd.snd.snd.snd.snd.snd.snd.snd.snd.snd.fst]
theorem flows_len (s : Den S96) : (flows s).length = 13 := rfl
theorem F77_all (l : List (Nat × Nat)) (h : l.length ≤ 13) : F77 (l, ()) = some (hourB l, ()) := by
  have hl : l77_2 ((l, (l.length : Int), (0 : Int), ()), ()) = some (bif hourB l then .inl ((), ()) else .inr ((false, ()), ())) := by
    refine (iter_allB (q := q77_2 K103 G103) (fun k => ((l, (l.length : Int), (k : Int), ()), ())) l.length (fun i => velB (atV l i)) _ _ ?_ ?_ _ ?_ : _)
    · intro k f hk
      unfold q77_2
      have e1 : decide ((k : Int) < (l.length : Int)) = true := by simpa using hk
      have e2 : decide (0 ≤ (k : Int)) = true := by simp
      have ha : List.getD l k (zero (Ty.cpx FloatKind.f32)) = atV l k := rfl
      have e3 : F103 (atV l k, ()) = some (velB (atV l k), ()) := F103_eq _
      simp only [w64n k (by omega), e1, e2, Bool.and_self, cond_true, Int.toNat_natCast, ha, K103, G103, e3, Option.isSome_some, Option.getD_some]
      cases velB (atV l k) <;> rfl
    · intro f
      simp [q77_2]
    · simp only [b77_2]; omega
  unfold F77 r77
  simp only [kL77_2, tL77_2, yL77_2, hl, Option.isSome_some, cond_true]
  cases hourB l <;> rfl

theorem F95_eq (s : Den S96) : F95 (s, ()) = some (hourB (flows s), ()) := by
  have hl : l95_2 (((), 0, ()), (s.fst, s.snd.fst), ()) = some (bif hourB (flows s) then .inl ((), ()) else .inr ((false, ()), ())) := by
    refine (iter_allB (q := q95_2 K78 G78) (fun k => (((), (k : Int), ()), (s.fst, s.snd.fst), ())) 13 (fun i => velB (atV (flows s) i)) _ _ ?_ ?_ _ ?_ : _)
    · intro k f hk
      unfold q95_2
      have e1 : decide ((k : Int) < 13) = true := by simp; omega
      have e2 : decide (0 ≤ (k : Int)) = true := by simp
      have e3 : F78 ((flows s).getD k (0, 0), ()) = some (velB (atV (flows s) k), ()) := F78_eq _
      generalize velB (atV (flows s) k) = b at e3 ⊢
      simp only [w64n k (by omega), e1, e2, Bool.and_self, cond_true, Int.toNat_natCast]
      unfold flows at e3
      simp only [K78, G78, e3, Option.isSome_some, Option.getD_some, cond_true]
      cases b <;> rfl
    · intro f
      rfl
    · simp only [b95_2]; omega
  unfold F95 r95
  simp only [kL95_2, tL95_2, yL95_2, hl, Option.isSome_some, cond_true]
  cases hourB (flows s) <;> rfl

def stAt (l : List (Den S96)) (i : Nat) : Den S96 := l.getD i (zero S96)
def hiAt (l : List Int) (i : Nat) : Int := l.getD i 0
def statB (s : Den S96) : Bool := vecB s.fst && hourB (flows s)
def highB (hs : List Int) (k : Nat) : Bool := inB (hiAt hs k) 0 10000000 && (decide (k = 0) || !decide (hiAt hs k < IntKind.i64.wrap (hiAt hs (k - 1) + 21600)))
def tideB (t : Den S48) : Bool := inB (t.1.length : Int) 1 20 && (inB (t.2.1.length : Int) 1 60 && (allFrom (fun i => statB (stAt t.1 i)) 0 t.1.length && allFrom (highB t.2.1) 0 t.2.1.length))

theorem F99_eq (t : Den S48) (h : TideG t) : F99 (t, ()) = some (tideB t, ()) := by
  obtain ⟨st, hs, _⟩ := t
  obtain ⟨h1, h2⟩ := h
  have h1 : st.length ≤ 21 := h1
  have h2 : hs.length ≤ 6 := h2
  have hl : l99_4 (((), st, (st.length : Int), 0, ()), (st, hs, ()), ()) = some (bif allFrom (fun i => statB (stAt st i)) 0 st.length then .inl (((), ()), (st, hs, ()), ()) else .inr ((false, ()), ())) := by
    refine (iter_allB (q := q99_4 K48 G48 K41 G41 K77 G77 K37 G37) (fun k => (((), st, (st.length : Int), (k : Int), ()), (st, hs, ()), ())) st.length (fun i => statB (stAt st i)) _ _ ?_ ?_ _ ?_ : _)
    · intro k f hk
      unfold q99_4
      have e1 : decide ((k : Int) < (st.length : Int)) = true := by simpa using hk
      have e2 : decide (0 ≤ (k : Int)) = true := by simp
      have ha : List.getD st k (zero S96) = stAt st k := rfl
      have e3 : F41 ((stAt st k).fst, ()) = some (vecB (stAt st k).fst, ()) := F41_eq _
      have e4 : F77 (flows (stAt st k), ()) = some (hourB (flows (stAt st k)), ()) := F77_all _ (by rw [flows_len]; decide)
      unfold statB
      simp only [w64n k (by omega), e1, e2, Bool.and_self, cond_true, Int.toNat_natCast, ha, K41, G41, e3, Option.isSome_some, Option.getD_some]
      unfold flows at e4 ⊢
      simp only [K77, G77, e4, Option.isSome_some, Option.getD_some]
      cases vecB (stAt st k).fst
      · rfl
      · cases hourB _ <;> rfl
    · intro f
      simp [q99_4]
    · simp only [b99_4]; omega
  have hl2 : l99_10 (((), hs, (hs.length : Int), 0, ()), (st, hs, ()), ()) = some (bif allFrom (highB hs) 0 hs.length then .inl ((), ()) else .inr ((false, ()), ())) := by
    refine (iter_allB (q := q99_10 K48 G48 K41 G41 K77 G77 K37 G37) (fun k => (((), hs, (hs.length : Int), (k : Int), ()), (st, hs, ()), ())) hs.length (highB hs) _ _ ?_ ?_ _ ?_ : _)
    · intro k f hk
      unfold q99_10
      have e1 : decide ((k : Int) < (hs.length : Int)) = true := by simpa using hk
      have e2 : decide (0 ≤ (k : Int)) = true := by simp
      have ha : ∀ i, List.getD hs i (zero (Ty.int IntKind.i64)) = hiAt hs i := fun _ => rfl
      have e3 : F37 (hiAt hs k, ()) = some (inB (hiAt hs k) 0 10000000, ()) := F37_eq _
      unfold highB
      simp only [w64n k (by omega), e1, e2, Bool.and_self, cond_true, Int.toNat_natCast, ha, K37, G37, e3, Option.isSome_some, Option.getD_some]
      cases inB (hiAt hs k) 0 10000000
      · rfl
      · cases k with
        | zero => rfl
        | succ k =>
          have e5 : IntKind.i64.wrap (((k + 1 : Nat) : Int) - 1) = (k : Int) := by rw [w64 (by omega) (by omega)]; omega
          have e6 : decide (((k + 1 : Nat) : Int) > 0) = true := decide_eq_true (by omega)
          have e7 : (decide (0 ≤ (k : Int)) && decide ((k : Int) < (hs.length : Int))) = true := by simp only [Bool.and_eq_true, decide_eq_true_eq]; omega
          simp only [e5, e6, e7, cond_true, Int.toNat_natCast, Bool.not_true, cond_false, Nat.add_sub_cancel, Bool.true_and]
          have e8 : decide (k + 1 = 0) = false := by simp
          rw [e8, Bool.false_or]
          cases decide (hiAt hs (k + 1) < IntKind.i64.wrap (hiAt hs k + 21600)) <;> rfl
    · intro f
      simp [q99_10]
    · simp only [b99_10]; omega
  have i1 : F48 ((st.length : Int), 1, 20, ()) = some (inB (st.length : Int) 1 20, ()) := F48_eq _ _ _
  have i2 : F48 ((hs.length : Int), 1, 60, ()) = some (inB (hs.length : Int) 1 60, ()) := F48_eq _ _ _
  unfold F99 r99 tideB
  simp only [K48, G48, i1, i2, Option.isSome_some, Option.getD_some, cond_true, kL99_4, tL99_4, xL99_4, yL99_4, hl]
  cases inB (st.length : Int) 1 20
  · rfl
  cases inB (hs.length : Int) 1 60
  · rfl
  cases allFrom (fun i => statB (stAt st i)) 0 st.length
  · rfl
  simp only [cond_true, isR, xOf, Bool.not_true, cond_false, kL99_10, tL99_10, yL99_10, hl2, Option.isSome_some]
  cases allFrom (highB hs) 0 hs.length <;> rfl

theorem F68_eq (t : Den S48) (h : TideG t) : F68 (t, ()) = some (tideB t, ()) := by
  obtain ⟨st, hs, _⟩ := t
  obtain ⟨h1, h2⟩ := h
  have h1 : st.length ≤ 21 := h1
  have h2 : hs.length ≤ 6 := h2
  have hl : l68_4 (((), 0, ()), (st, hs, ()), ()) = some (bif allFrom (fun i => statB (stAt st i)) 0 st.length then .inl (((), ()), (st, hs, ()), ()) else .inr ((false, ()), ())) := by
    refine (iter_allB (q := q68_4 K39 G39 K22 G22 K95 G95) (fun k => (((), (k : Int), ()), (st, hs, ()), ())) st.length (fun i => statB (stAt st i)) _ _ ?_ ?_ _ ?_ : _)
    · intro k f hk
      unfold q68_4
      have e1 : decide ((k : Int) < (st.length : Int)) = true := by simpa using hk
      have e2 : decide (0 ≤ (k : Int)) = true := by simp
      have ha : List.getD st k (zero S96) = stAt st k := rfl
      have e3 : F22 ((stAt st k).fst, ()) = some (vecB (stAt st k).fst, ()) := F22_eq _
      have e4 : F95 (stAt st k, ()) = some (hourB (flows (stAt st k)), ()) := F95_eq _
      unfold statB
      simp only [w64n k (by omega), e1, e2, Bool.and_self, cond_true, Int.toNat_natCast, ha, K22, G22, e3, K95, G95, e4, Option.isSome_some, Option.getD_some]
      cases vecB (stAt st k).fst
      · rfl
      · cases hourB _ <;> rfl
    · intro f
      simp [q68_4]
    · simp only [b68_4]; omega
  have hl2 : l68_9 (((), 0, ()), (st, hs, ()), ()) = some (bif allFrom (highB hs) 0 hs.length then .inl ((), ()) else .inr ((false, ()), ())) := by
    refine (iter_allB (q := q68_9 K39 G39 K22 G22 K95 G95) (fun k => (((), (k : Int), ()), (st, hs, ()), ())) hs.length (highB hs) _ _ ?_ ?_ _ ?_ : _)
    · intro k f hk
      unfold q68_9
      have e1 : decide ((k : Int) < (hs.length : Int)) = true := by simpa using hk
      have e2 : decide (0 ≤ (k : Int)) = true := by simp
      have ha : ∀ i, List.getD hs i (zero (Ty.int IntKind.i64)) = hiAt hs i := fun _ => rfl
      have e3 : F39 (hiAt hs k, 0, 10000000, ()) = some (inB (hiAt hs k) 0 10000000, ()) := F39_eq _ _ _
      unfold highB
      simp only [w64n k (by omega), e1, e2, Bool.and_self, cond_true, Int.toNat_natCast, ha, K39, G39, e3, Option.isSome_some, Option.getD_some]
      cases inB (hiAt hs k) 0 10000000
      · rfl
      · cases k with
        | zero => rfl
        | succ k =>
          have e5 : IntKind.i64.wrap (((k + 1 : Nat) : Int) - 1) = (k : Int) := by rw [w64 (by omega) (by omega)]; omega
          have e6 : decide (((k + 1 : Nat) : Int) > 0) = true := decide_eq_true (by omega)
          have e7 : (decide (0 ≤ (k : Int)) && decide ((k : Int) < (hs.length : Int))) = true := by simp only [Bool.and_eq_true, decide_eq_true_eq]; omega
          simp only [e5, e6, e7, cond_true, Int.toNat_natCast, Bool.not_true, cond_false, Nat.add_sub_cancel, Bool.true_and]
          have e8 : decide (k + 1 = 0) = false := by simp
          rw [e8, Bool.false_or]
          cases decide (hiAt hs (k + 1) < IntKind.i64.wrap (hiAt hs k + 21600)) <;> rfl
    · intro f
      simp [q68_9]
    · simp only [b68_9]; omega
  have i1 : F39 ((st.length : Int), 1, 20, ()) = some (inB (st.length : Int) 1 20, ()) := F39_eq _ _ _
  have i2 : F39 ((hs.length : Int), 1, 60, ()) = some (inB (hs.length : Int) 1 60, ()) := F39_eq _ _ _
  unfold F68 r68 tideB
  simp only [K39, G39, i1, i2, Option.isSome_some, Option.getD_some, cond_true, kL68_4, tL68_4, xL68_4, yL68_4, hl]
  cases inB (st.length : Int) 1 20
  · rfl
  cases inB (hs.length : Int) 1 60
  · rfl
  cases allFrom (fun i => statB (stAt st i)) 0 st.length
  · rfl
  simp only [cond_true, isR, xOf, Bool.not_true, cond_false, kL68_9, tL68_9, yL68_9, hl2, Option.isSome_some]
  cases allFrom (highB hs) 0 hs.length <;> rfl

end Go.Proofs.Ytmmdjajebmihhaa.AM

/- Plainly: the stream at a place and a time is the same on both sides. Conditions: short lists. -/
namespace Go.Proofs.Ytmmdjajebmihhaa.AM
open Go Go.Proofs
set_option linter.unusedVariables false

/-! ## The nearest station -/

def farTo (z p : Nat × Nat) : Nat :=
  farith .add .f64 (farith .mul .f64 (farith .sub .f64 z.1 p.1) (farith .sub .f64 z.1 p.1)) (farith .mul .f64 (farith .sub .f64 z.2 p.2) (farith .sub .f64 z.2 p.2))
def nearNext (st : List (Den S96)) (p : Nat × Nat) (k : Nat) (a : Int × Nat) : (Int × Nat) ⊕ ((Int × Unit) × Unit) :=
  bif decide (a.1 < 0) then .inl ((k : Int), farTo (stAt st k).fst p) else bif flt .f64 (farTo (stAt st k).fst p) a.2 then .inl ((k : Int), farTo (stAt st k).fst p) else .inl a
def nearR (st : List (Den S96)) (p : Nat × Nat) : (Int × Unit) × Unit := accFrom (nearNext st p) (fun a => ((a.1, ()), ())) 0 st.length (-1, 0)
def nearV (t : Den S48) (p : Nat × Nat) : Int := bif tideB t && vecB p then (nearR t.1 p).1.1 else -1

theorem near_in (st : List (Den S96)) (p : Nat × Nat) : ∀ (n k : Nat) (a : Int × Nat), (a.1 = -1 ∧ k = 0 ∨ 0 ≤ a.1 ∧ a.1 < (k : Int)) → (((accFrom (nearNext st p) (fun a => ((a.1, ()), ())) k n a).1.1 : Int) = -1 ∧ k + n = 0) ∨ 0 ≤ ((accFrom (nearNext st p) (fun a => ((a.1, ()), ())) k n a).1.1 : Int) ∧ ((accFrom (nearNext st p) (fun a => ((a.1, ()), ())) k n a).1.1 : Int) < ((k + n : Nat) : Int)
  | 0, k, a, h => by
    show ((a.1 : Int) = -1 ∧ k + 0 = 0) ∨ 0 ≤ a.1 ∧ a.1 < ((k + 0 : Nat) : Int)
    rcases h with ⟨h1, h2⟩ | h
    · exact .inl ⟨h1, h2⟩
    · exact .inr ⟨h.1, by omega⟩
  | n + 1, k, a, h => by
    simp only [accFrom]
    have e : k + (n + 1) = k + 1 + n := by omega
    rw [e]
    unfold nearNext
    by_cases h1 : a.1 < 0
    · rw [show decide (a.1 < 0) = true by simpa using h1, cond_true]
      exact near_in st p n (k + 1) _ (.inr ⟨by show (0 : Int) ≤ (k : Int); omega, by show (k : Int) < ((k + 1 : Nat) : Int); omega⟩)
    · rw [show decide (a.1 < 0) = false by simpa using h1, cond_false]
      cases flt .f64 (farTo (stAt st k).fst p) a.2 with
      | true => exact near_in st p n (k + 1) _ (.inr ⟨by show (0 : Int) ≤ (k : Int); omega, by show (k : Int) < ((k + 1 : Nat) : Int); omega⟩)
      | false =>
        refine near_in st p n (k + 1) _ (.inr ?_)
        rcases h with ⟨h2, _⟩ | h
        · omega
        · exact ⟨h.1, by omega⟩

theorem F71_eq (t : Den S48) (p : Nat × Nat) (h : TideG t) : F71 (t, p, ()) = some (nearV t p, ()) := by
  have e1 : F99 (t, ()) = some (tideB t, ()) := F99_eq t h
  have e2 : F41 (p, ()) = some (vecB p, ()) := F41_eq p
  obtain ⟨st, hs, _⟩ := t
  obtain ⟨h1, h2⟩ := h
  have h1 : st.length ≤ 21 := h1
  have hl : l71_5 ((p, -1, 0, st, (st.length : Int), 0, ()), ()) = some (nearR st p) := by
    refine (iter_acc (q := q71_5 K99 G99 K41 G41 K42 G42 K43 G43) (fun k (a : Int × Nat) => ((p, a.1, a.2, st, (st.length : Int), (k : Int), ()), ())) st.length (nearNext st p) (fun a => ((a.1, ()), ())) ?_ ?_ _ st.length 0 (-1, 0) (by omega) ?_ : _)
    · intro k a f hk
      unfold q71_5
      have d1 : decide ((k : Int) < (st.length : Int)) = true := by simpa using hk
      have d2 : decide (0 ≤ (k : Int)) = true := by simp
      have ha : List.getD st k (zero S96) = stAt st k := rfl
      have e3 : F42 ((stAt st k).fst, p, ()) = some ((farith .sub .f64 (stAt st k).fst.1 p.1, farith .sub .f64 (stAt st k).fst.2 p.2), ()) := rfl
      have e4 : F43 ((farith .sub .f64 (stAt st k).fst.1 p.1, farith .sub .f64 (stAt st k).fst.2 p.2), (farith .sub .f64 (stAt st k).fst.1 p.1, farith .sub .f64 (stAt st k).fst.2 p.2), ()) = some (farTo (stAt st k).fst p, ()) := rfl
      unfold nearNext
      simp only [w64n k (by omega), d1, d2, Bool.and_self, cond_true, Int.toNat_natCast, ha, K42, G42, e3, K43, G43, e4, Option.isSome_some, Option.getD_some]
      cases decide (a.1 < 0)
      · cases flt .f64 (farTo (stAt st k).fst p) a.2 <;> rfl
      · rfl
    · intro a f
      simp [q71_5]
    · simp only [b71_5]; omega
  unfold F71 r71 nearV
  simp only [K99, G99, e1, K41, G41, e2, Option.isSome_some, Option.getD_some, cond_true, kL71_5, xL71_5, hl]
  cases tideB (st, hs, ())
  · rfl
  · cases vecB p <;> rfl

theorem F96_eq (t : Den S48) (p : Nat × Nat) (h : TideG t) : F96 (t, p, ()) = some (nearV t p, ()) := by
  have e1 : F68 (t, ()) = some (tideB t, ()) := F68_eq t h
  have e2 : F22 (p, ()) = some (vecB p, ()) := F22_eq p
  obtain ⟨st, hs, _⟩ := t
  obtain ⟨h1, h2⟩ := h
  have h1 : st.length ≤ 21 := h1
  have hl : l96_6 ((p, (), -1, 0, 0, ()), (st, hs, ()), ()) = some (nearR st p) := by
    refine (iter_acc (q := q96_6 K68 G68 K22 G22 K81 G81) (fun k (a : Int × Nat) => ((p, (), a.1, a.2, (k : Int), ()), (st, hs, ()), ())) st.length (nearNext st p) (fun a => ((a.1, ()), ())) ?_ ?_ _ st.length 0 (-1, 0) (by omega) ?_ : _)
    · intro k a f hk
      unfold q96_6
      have d1 : decide ((k : Int) < (st.length : Int)) = true := by simpa using hk
      have d2 : decide (0 ≤ (k : Int)) = true := by simp
      have ha : List.getD st k (zero S96) = stAt st k := rfl
      have e4 : F81 ((farith .sub .f64 (stAt st k).fst.1 p.1, farith .sub .f64 (stAt st k).fst.2 p.2), (farith .sub .f64 (stAt st k).fst.1 p.1, farith .sub .f64 (stAt st k).fst.2 p.2), ()) = some (farTo (stAt st k).fst p, ()) := rfl
      unfold nearNext
      simp only [w64n k (by omega), d1, d2, Bool.and_self, cond_true, Int.toNat_natCast, ha, K81, G81, e4, Option.isSome_some, Option.getD_some]
      cases decide (a.1 < 0)
      · cases flt .f64 (farTo (stAt st k).fst p) a.2 <;> rfl
      · rfl
    · intro a f
      simp [q96_6]
    · simp only [b96_6]; omega
  unfold F96 r96 nearV
  simp only [K68, G68, e1, K22, G22, e2, Option.isSome_some, Option.getD_some, cond_true, kL96_6, xL96_6, hl]
  cases tideB (st, hs, ())
  · rfl
  · cases vecB p <;> rfl

/-! ## The nearest high water -/

def awayI (a b : Int) : Int := bif decide (a > b) then a - b else b - a
def hiNext (hs : List Int) (t : Int) (k : Nat) (b : Int) : Int ⊕ ((Int × Unit) × Unit) := .inl (bif decide (awayI (hiAt hs k) t < awayI (hiAt hs b.toNat) t) then (k : Int) else b)
def hiR (hs : List Int) (t : Int) : (Int × Unit) × Unit := accFrom (hiNext hs t) (fun b => ((b, ()), ())) 0 hs.length 0
def hiV (td : Den S48) (t : Int) : Int := bif tideB td && inB t 0 10000000 then (hiR td.2.1 t).1.1 else -1

theorem hi_range {st : List (Den S96)} {hs : List Int} {u : Unit} (h : tideB (st, hs, u) = true) : 1 ≤ st.length ∧ 1 ≤ hs.length ∧ ∀ i, i < hs.length → 0 ≤ hiAt hs i ∧ hiAt hs i ≤ 10000000 := by
  unfold tideB at h
  simp only [Bool.and_eq_true] at h
  obtain ⟨h1, h2, h3, h4⟩ := h
  simp only [inB, Bool.and_eq_true, decide_eq_true_eq] at h1 h2
  refine ⟨by omega, by omega, fun i hi => ?_⟩
  have := allFrom_iff.1 h4 i (Nat.zero_le _) (by omega)
  unfold highB at this
  simp only [Bool.and_eq_true, inB, decide_eq_true_eq] at this
  exact this.1
theorem stat_ok {st : List (Den S96)} {hs : List Int} {u : Unit} (h : tideB (st, hs, u) = true) {i : Nat} (hi : i < st.length) : statB (stAt st i) = true := by
  unfold tideB at h
  simp only [Bool.and_eq_true] at h
  exact allFrom_iff.1 h.2.2.1 i (Nat.zero_le _) (by omega)

theorem hi_in (hs : List Int) (t : Int) : ∀ (n k : Nat) (b : Int), 0 ≤ b → (b < (k : Int) ∨ b = 0) → 0 ≤ ((accFrom (hiNext hs t) (fun b => ((b, ()), ())) k n b).1.1 : Int) ∧ (((accFrom (hiNext hs t) (fun b => ((b, ()), ())) k n b).1.1 : Int) < ((k + n : Nat) : Int) ∨ ((accFrom (hiNext hs t) (fun b => ((b, ()), ())) k n b).1.1 : Int) = 0)
  | 0, k, b, h0, h => ⟨h0, by rcases h with h | h; exact .inl (by show b < ((k + 0 : Nat) : Int); omega); exact .inr h⟩
  | n + 1, k, b, h0, h => by
    simp only [accFrom]
    have e : k + (n + 1) = k + 1 + n := by omega
    rw [e]
    unfold hiNext
    cases decide (awayI (hiAt hs k) t < awayI (hiAt hs b.toNat) t) with
    | true => exact hi_in hs t n (k + 1) (k : Int) (by omega) (.inl (by omega))
    | false => exact hi_in hs t n (k + 1) b h0 (by rcases h with h | h; exact .inl (by omega); exact .inr h)

theorem away_max (a b : Int) : imax (b - a) (a - b) = awayI a b := by
  unfold imax awayI
  by_cases h : a > b
  · rw [show decide (a > b) = true by simpa using h, cond_true, if_pos (by omega)]
  · rw [show decide (a > b) = false by simpa using h, cond_false]
    by_cases h2 : a - b > b - a
    · omega
    · rw [if_neg h2]

theorem F100_eq (st : List (Den S96)) (hs : List Int) (t i : Int) (hi : 0 ≤ i ∧ i < (hs.length : Int)) (ht : 0 ≤ t ∧ t ≤ 10000000) (hh : 0 ≤ hiAt hs i.toNat ∧ hiAt hs i.toNat ≤ 10000000) :
    F100 ((i, (), (), ()), t, (st, hs, ()), ()) = some ((awayI (hiAt hs i.toNat) t, ()), (t, (st, hs, ()), ())) := by
  have d1 : (decide (0 ≤ i) && decide (i < (hs.length : Int))) = true := by simp only [Bool.and_eq_true, decide_eq_true_eq]; exact hi
  have ha : List.getD hs i.toNat (zero (Ty.int IntKind.i64)) = hiAt hs i.toNat := rfl
  unfold F100 r100
  simp only [d1, cond_true, ha]
  rw [w64 (x := t - hiAt hs i.toNat) (by omega) (by omega), w64 (x := hiAt hs i.toNat - t) (by omega) (by omega), away_max]

theorem F72_eq (td : Den S48) (t : Int) (h : TideG td) : F72 (td, t, ()) = some (hiV td t, ()) := by
  have e1 : F99 (td, ()) = some (tideB td, ()) := F99_eq td h
  have e2 : F37 (t, ()) = some (inB t 0 10000000, ()) := F37_eq t
  obtain ⟨st, hs, _⟩ := td
  obtain ⟨_, h2⟩ := h
  have h2 : hs.length ≤ 6 := h2
  unfold F72 r72 hiV
  simp only [K99, G99, e1, K37, G37, e2, Option.isSome_some, Option.getD_some, cond_true]
  cases hb : tideB (st, hs, ())
  · rfl
  cases ht : inB t 0 10000000
  · rfl
  obtain ⟨_, r2, r3⟩ := hi_range hb
  simp only [inB, Bool.and_eq_true, decide_eq_true_eq] at ht
  have hl : l72_6 (((), 0, (hs.length : Int), 0, ()), (t, ()), (st, hs, ()), ()) = some (hiR hs t) := by
    refine (iter_accI (q := q72_6 K99 G99 K37 G37 K100 G100) (fun k (b : Int) => (((), b, (hs.length : Int), (k : Int), ()), (t, ()), (st, hs, ()), ())) hs.length (hiNext hs t) (fun b => ((b, ()), ())) (fun k b => 0 ≤ b ∧ b < (hs.length : Int)) ?_ ?_ ?_ _ hs.length 0 0 (by omega) ?_ ⟨Int.le_refl 0, by omega⟩ : _)
    · intro k b f hk hb0
      unfold q72_6
      have d1 : decide ((k : Int) < (hs.length : Int)) = true := by simpa using hk
      have e3 : F100 (((k : Int), (), (), ()), t, (st, hs, ()), ()) = some ((awayI (hiAt hs k) t, ()), (t, (st, hs, ()), ())) := F100_eq st hs t k ⟨by omega, by omega⟩ ht (r3 k hk)
      have e4 : F100 ((b, (), (), ()), t, (st, hs, ()), ()) = some ((awayI (hiAt hs b.toNat) t, ()), (t, (st, hs, ()), ())) := F100_eq st hs t b hb0 ht (r3 _ (by omega))
      unfold hiNext
      simp only [w64n k (by omega), d1, cond_true, K100, G100, e3, e4, Option.isSome_some, Option.getD_some]
      cases decide (awayI (hiAt hs k) t < awayI (hiAt hs b.toNat) t) <;> rfl
    · intro k b b' hk hb0 hn
      unfold hiNext at hn
      have hn := Sum.inl.inj hn
      subst hn
      cases decide (awayI (hiAt hs k) t < awayI (hiAt hs b.toNat) t) with
      | true => exact ⟨by show (0 : Int) ≤ (k : Int); omega, by show (k : Int) < _; omega⟩
      | false => exact hb0
    · intro b f _
      simp [q72_6]
    · simp only [b72_6]; omega
  simp only [kL72_6, xL72_6, hl, Option.isSome_some, Option.getD_some, cond_true, Bool.not_true, cond_false, Bool.and_self]

theorem F97_eq (td : Den S48) (t : Int) (h : TideG td) : F97 (td, t, ()) = some (hiV td t, ()) := by
  have e1 : F68 (td, ()) = some (tideB td, ()) := F68_eq td h
  have e2 : F39 (t, 0, 10000000, ()) = some (inB t 0 10000000, ()) := F39_eq _ _ _
  obtain ⟨st, hs, _⟩ := td
  obtain ⟨_, h2⟩ := h
  have h2 : hs.length ≤ 6 := h2
  unfold F97 r97 hiV
  simp only [K68, G68, e1, K39, G39, e2, Option.isSome_some, Option.getD_some, cond_true]
  cases hb : tideB (st, hs, ())
  · rfl
  cases ht : inB t 0 10000000
  · rfl
  obtain ⟨_, r2, r3⟩ := hi_range hb
  simp only [inB, Bool.and_eq_true, decide_eq_true_eq] at ht
  have hA : ∀ a : Int, 0 ≤ a ∧ a ≤ 10000000 → F112 (a, t, ()) = some (awayI a t, ()) := by
    intro a ha
    unfold F112 r112 awayI
    simp only []
    rw [w64 (x := a - t) (by omega) (by omega), w64 (x := t - a) (by omega) (by omega)]
    cases decide (a > t) <;> rfl
  have hfirst : hiR hs t = accFrom (hiNext hs t) (fun b => ((b, ()), ())) 1 (hs.length - 1) 0 := by
    unfold hiR
    obtain ⟨m, hm⟩ : ∃ m, hs.length = m + 1 := ⟨hs.length - 1, by omega⟩
    rw [hm]
    simp only [accFrom]
    unfold hiNext
    have : decide (awayI (hiAt hs 0) t < awayI (hiAt hs (0 : Int).toNat) t) = false := by simp
    rw [this]
    rfl
  have hl : l97_5 ((t, (), 0, 1, ()), (st, hs, ()), ()) = some (hiR hs t) := by
    rw [hfirst]
    refine (iter_accI (q := q97_5 K68 G68 K39 G39 K112 G112) (fun k (b : Int) => ((t, (), b, (k : Int), ()), (st, hs, ()), ())) hs.length (hiNext hs t) (fun b => ((b, ()), ())) (fun k b => 0 ≤ b ∧ b < (hs.length : Int)) ?_ ?_ ?_ _ (hs.length - 1) 1 0 (by omega) ?_ ⟨Int.le_refl 0, by omega⟩ : _)
    · intro k b f hk hb0
      unfold q97_5
      have d1 : decide ((k : Int) < (hs.length : Int)) = true := by simpa using hk
      have d2 : decide (0 ≤ (k : Int)) = true := by simp
      have d3 : (decide (0 ≤ b) && decide (b < (hs.length : Int))) = true := by simp only [Bool.and_eq_true, decide_eq_true_eq]; exact hb0
      have ha : ∀ i, List.getD hs i (zero (Ty.int IntKind.i64)) = hiAt hs i := fun _ => rfl
      have e3 := hA _ (r3 k hk)
      have e4 := hA _ (r3 b.toNat (by omega))
      unfold hiNext
      simp only [w64n k (by omega), d1, d2, d3, Bool.and_self, cond_true, Int.toNat_natCast, ha, K112, G112, e3, e4, Option.isSome_some, Option.getD_some]
      cases decide (awayI (hiAt hs k) t < awayI (hiAt hs b.toNat) t) <;> rfl
    · intro k b b' hk hb0 hn
      unfold hiNext at hn
      have hn := Sum.inl.inj hn
      subst hn
      cases decide (awayI (hiAt hs k) t < awayI (hiAt hs b.toNat) t) with
      | true => exact ⟨by show (0 : Int) ≤ (k : Int); omega, by show (k : Int) < _; omega⟩
      | false => exact hb0
    · intro b f _
      simp [q97_5]
    · simp only [b97_5]; omega
  simp only [kL97_5, xL97_5, hl, Option.isSome_some, Option.getD_some, cond_true, Bool.not_true, cond_false, Bool.and_self]

end Go.Proofs.Ytmmdjajebmihhaa.AM

/- Plainly: the stream at a place and a time, both sides. Conditions: short lists. -/
namespace Go.Proofs.Ytmmdjajebmihhaa.AM
open Go Go.Proofs
set_option linter.unusedVariables false

def clampV (x : Int) : Int := bif decide (x < -21600) then -21600 else imin x 21600
theorem clamp_in (x : Int) : -21600 ≤ clampV x ∧ clampV x ≤ 21600 := by
  unfold clampV imin
  by_cases h : x < -21600
  · rw [show decide (x < -21600) = true by simpa using h, cond_true]; omega
  · rw [show decide (x < -21600) = false by simpa using h, cond_false]
    split <;> omega
theorem F101_eq (x : Int) : F101 (x, -21600, 21600, ()) = some (clampV x, ()) := by
  unfold F101 r101 clampV
  have h : decide ((21600 : Int) < -21600) = false := by decide
  simp only [h, cond_false]
  cases decide (x < -21600) <;> rfl
theorem F113_eq (x : Int) : F113 (x, -21600, 21600, ()) = some (clampV x, ()) := by
  unfold F113 r113 clampV imin
  have h : decide ((21600 : Int) < -21600) = false := by decide
  simp only [h, cond_false]
  cases decide (x < -21600)
  · simp only [cond_false]
    by_cases h2 : x > 21600
    · rw [show decide (x > 21600) = true by simpa using h2, cond_true, if_pos (by omega)]
    · rw [show decide (x > 21600) = false by simpa using h2, cond_false, if_neg (by omega)]
  · rfl

def mixV (a b q : Nat) : Nat := farith .add .f32 a (farith .mul .f32 (farith .sub .f32 b a) q)
def share (r : Int) : Nat := farith .quo .f32 (FloatKind.nearest .f32 r) 1163984896
def mix2 (a b : Nat × Nat) (q : Nat) : Nat × Nat := (mixV a.1 b.1 q, mixV a.2 b.2 q)
def flowV (s : Den S96) (off : Int) : (Nat × Nat) × Bool × Unit :=
  bif !hourB (flows s) then ((0, 0), false, ()) else
    bif ((clampV off + 21600) % 3600 == 0) then (atV (flows s) ((clampV off + 21600) / 3600).toNat, true, ())
    else (mix2 (atV (flows s) ((clampV off + 21600) / 3600).toNat) (atV (flows s) ((clampV off + 21600) / 3600 + 1).toNat) (share ((clampV off + 21600) % 3600)), true, ())

theorem F73_eq (s : Den S96) (off : Int) : F73 (s, off, ()) = some (flowV s off) := by
  have e1 : F77 (flows s, ()) = some (hourB (flows s), ()) := F77_all _ (by rw [flows_len]; decide)
  have e2 : F101 (off, -21600, 21600, ()) = some (clampV off, ()) := F101_eq off
  have e3 : ∀ a b q : Nat, F102 (a, b, q, ()) = some (mixV a b q, ()) := fun _ _ _ => rfl
  obtain ⟨c1, c2⟩ := clamp_in off
  have hfl : [s.snd.fst.fst, s.snd.fst.snd.fst, s.snd.fst.snd.snd.fst, s.snd.fst.snd.snd.snd.fst, s.snd.fst.snd.snd.snd.snd.fst, s.snd.fst.snd.snd.snd.snd.snd.fst, s.snd.fst.snd.snd.snd.snd.snd.snd.fst, s.snd.fst.snd.snd.snd.snd.snd.snd.snd.fst, s.snd.fst.snd.snd.snd.snd.snd.snd.snd.snd.fst, s.snd.fst.snd.snd.snd.snd.snd.snd.snd.snd.snd.fst, s.snd.fst.snd.snd.snd.snd.snd.snd.snd.snd.snd.snd.fst, s.snd.fst.snd.snd.snd.snd.snd.snd.snd.snd.snd.snd.snd.fst, s.snd.fst.snd.snd.snd.snd.snd.snd.snd.snd.snd.snd.snd.snd.fst] = flows s := rfl
  have ha : ∀ i, List.getD (flows s) i (0, 0) = atV (flows s) i := fun _ => rfl
  unfold F73 r73 flowV
  simp only [hfl, K77, G77, e1, K101, G101, e2, Option.isSome_some, Option.getD_some, cond_true]
  generalize clampV off = c at *
  have w1 : IntKind.i64.wrap (c + 21600) = c + 21600 := w64 (by omega) (by omega)
  have t1 : Int.tmod (c + 21600) 3600 = (c + 21600) % 3600 := Int.tmod_eq_emod_of_nonneg (by omega)
  have t2 : Int.tdiv (c + 21600) 3600 = (c + 21600) / 3600 := Int.tdiv_eq_ediv_of_nonneg (by omega)
  have w2 : IntKind.i64.wrap ((c + 21600) / 3600) = (c + 21600) / 3600 := w64 (by omega) (by omega)
  have w3 : IntKind.i64.wrap ((c + 21600) / 3600 + 1) = (c + 21600) / 3600 + 1 := w64 (by omega) (by omega)
  have d1 : (decide (0 ≤ (c + 21600) / 3600) && decide ((c + 21600) / 3600 < 13)) = true := by simp only [Bool.and_eq_true, decide_eq_true_eq]; omega
  simp only [w1, t1, t2, w2, w3, d1, cond_true, ha]
  cases hourB (flows s)
  · rfl
  simp only [Bool.not_true, cond_false]
  by_cases hz : (c + 21600) % 3600 = 0
  · rw [show ((c + 21600) % 3600 == 0) = true by simpa using hz]
    rfl
  · have d2 : (decide (0 ≤ (c + 21600) / 3600 + 1) && decide ((c + 21600) / 3600 + 1 < 13)) = true := by simp only [Bool.and_eq_true, decide_eq_true_eq]; omega
    rw [show ((c + 21600) % 3600 == 0) = false by simpa using hz]
    simp only [cond_false, d2, cond_true, K102, G102, e3, Option.isSome_some, Option.getD_some]
    rfl

theorem F98_eq (s : Den S96) (off : Int) : F98 (s, off, ()) = some (flowV s off) := by
  have e1 : F95 (s, ()) = some (hourB (flows s), ()) := F95_eq s
  have e2 : F113 (off, -21600, 21600, ()) = some (clampV off, ()) := F113_eq off
  have e3 : ∀ a b q : Nat, F114 (a, b, q, ()) = some (mixV a b q, ()) := fun _ _ _ => rfl
  obtain ⟨c1, c2⟩ := clamp_in off
  have hfl : [s.snd.fst.fst, s.snd.fst.snd.fst, s.snd.fst.snd.snd.fst, s.snd.fst.snd.snd.snd.fst, s.snd.fst.snd.snd.snd.snd.fst, s.snd.fst.snd.snd.snd.snd.snd.fst, s.snd.fst.snd.snd.snd.snd.snd.snd.fst, s.snd.fst.snd.snd.snd.snd.snd.snd.snd.fst, s.snd.fst.snd.snd.snd.snd.snd.snd.snd.snd.fst, s.snd.fst.snd.snd.snd.snd.snd.snd.snd.snd.snd.fst, s.snd.fst.snd.snd.snd.snd.snd.snd.snd.snd.snd.snd.fst, s.snd.fst.snd.snd.snd.snd.snd.snd.snd.snd.snd.snd.snd.fst, s.snd.fst.snd.snd.snd.snd.snd.snd.snd.snd.snd.snd.snd.snd.fst] = flows s := rfl
  have ha : ∀ i, List.getD (flows s) i (0, 0) = atV (flows s) i := fun _ => rfl
  unfold F98 r98 flowV
  simp only [hfl, K95, G95, e1, K113, G113, e2, Option.isSome_some, Option.getD_some, cond_true]
  generalize clampV off = c at *
  have w1 : IntKind.i64.wrap (c + 21600) = c + 21600 := w64 (by omega) (by omega)
  have t1 : Int.tmod (c + 21600) 3600 = (c + 21600) % 3600 := Int.tmod_eq_emod_of_nonneg (by omega)
  have t2 : Int.tdiv (c + 21600) 3600 = (c + 21600) / 3600 := Int.tdiv_eq_ediv_of_nonneg (by omega)
  have w2 : IntKind.i64.wrap ((c + 21600) / 3600) = (c + 21600) / 3600 := w64 (by omega) (by omega)
  have w3 : IntKind.i64.wrap ((c + 21600) / 3600 + 1) = (c + 21600) / 3600 + 1 := w64 (by omega) (by omega)
  have d1 : (decide (0 ≤ (c + 21600) / 3600) && decide ((c + 21600) / 3600 < 13)) = true := by simp only [Bool.and_eq_true, decide_eq_true_eq]; omega
  simp only [w1, t1, t2, w2, w3, d1, cond_true, ha]
  cases hourB (flows s)
  · rfl
  simp only [Bool.not_true, cond_false]
  by_cases hz : (c + 21600) % 3600 = 0
  · rw [show ((c + 21600) % 3600 == 0) = true by simpa using hz]
    rfl
  · have d2 : (decide (0 ≤ (c + 21600) / 3600 + 1) && decide ((c + 21600) / 3600 + 1 < 13)) = true := by simp only [Bool.and_eq_true, decide_eq_true_eq]; omega
    rw [show ((c + 21600) % 3600 == 0) = false by simpa using hz]
    simp only [cond_false, d2, cond_true, K114, G114, e3, Option.isSome_some, Option.getD_some]
    rfl

def streamV (td : Den S48) (p : Nat × Nat) (t : Int) : (Nat × Nat) × Bool × Unit :=
  bif decide (nearV td p < 0) || decide (hiV td t < 0) then ((0, 0), false, ()) else flowV (stAt td.1 (nearV td p).toNat) (t - hiAt td.2.1 (hiV td t).toNat)

theorem near_lt {td : Den S48} {p : Nat × Nat} (h : ¬ nearV td p < 0) : tideB td = true ∧ vecB p = true ∧ 0 ≤ nearV td p ∧ nearV td p < (td.1.length : Int) := by
  unfold nearV at h ⊢
  cases hb : tideB td with
  | false => rw [hb] at h; exact absurd h (by simp)
  | true =>
    cases hp : vecB p with
    | false => rw [hb, hp] at h; exact absurd h (by simp)
    | true =>
      rw [hb, hp] at h
      simp only [Bool.and_self, cond_true] at h ⊢
      refine ⟨trivial, trivial, ?_⟩
      have := near_in td.1 p td.1.length 0 (-1, 0) (.inl ⟨rfl, rfl⟩)
      have e : accFrom (nearNext td.1 p) (fun a => ((a.1, ()), ())) 0 td.1.length (-1, 0) = nearR td.1 p := rfl
      rw [e, Nat.zero_add] at this
      omega
theorem hi_lt {td : Den S48} {t : Int} (h : ¬ hiV td t < 0) : tideB td = true ∧ (0 ≤ t ∧ t ≤ 10000000) ∧ 0 ≤ hiV td t ∧ hiV td t < (td.2.1.length : Int) := by
  obtain ⟨st, hs, _⟩ := td
  unfold hiV at h ⊢
  cases hb : tideB (st, hs, ()) with
  | false => rw [hb] at h; exact absurd h (by simp)
  | true =>
    cases ht : inB t 0 10000000 with
    | false => rw [hb, ht] at h; exact absurd h (by simp)
    | true =>
      rw [hb, ht] at h
      simp only [Bool.and_self, cond_true] at h ⊢
      simp only [inB, Bool.and_eq_true, decide_eq_true_eq] at ht
      refine ⟨trivial, ht, ?_⟩
      have h1 := (hi_range hb).2.1
      have := hi_in hs t hs.length 0 0 (Int.le_refl 0) (.inr rfl)
      have e : accFrom (hiNext hs t) (fun b => ((b, ()), ())) 0 hs.length 0 = hiR hs t := rfl
      rw [e, Nat.zero_add] at this
      omega

theorem F28_eq (td : Den S48) (p : Nat × Nat) (t : Int) (h : TideG td) : F28 (td, p, t, ()) = some (streamV td p t) := by
  have e1 : F71 (td, p, ()) = some (nearV td p, ()) := F71_eq td p h
  have e2 : F72 (td, t, ()) = some (hiV td t, ()) := F72_eq td t h
  unfold F28 r28 streamV
  simp only [K71, G71, e1, K72, G72, e2, Option.isSome_some, Option.getD_some, cond_true]
  by_cases h1 : nearV td p < 0
  · simp only [h1, decide_true, cond_true, Bool.true_or]
  by_cases h2 : hiV td t < 0
  · simp only [h1, h2, decide_true, decide_false, cond_true, cond_false, Bool.or_true]
  obtain ⟨_, _, n3, n4⟩ := near_lt h1
  obtain ⟨hb, ht, q3, q4⟩ := hi_lt h2
  have d1 : (decide (0 ≤ nearV td p) && decide (nearV td p < (td.1.length : Int))) = true := by simp only [Bool.and_eq_true, decide_eq_true_eq]; exact ⟨n3, n4⟩
  have d2 : (decide (0 ≤ hiV td t) && decide (hiV td t < (td.2.1.length : Int))) = true := by simp only [Bool.and_eq_true, decide_eq_true_eq]; exact ⟨q3, q4⟩
  obtain ⟨st, hs, _⟩ := td
  have r3 := (hi_range hb).2.2 (hiV (st, hs, ()) t).toNat (by have q4 : hiV (st, hs, ()) t < (hs.length : Int) := q4; have q3 : 0 ≤ hiV (st, hs, ()) t := q3; omega)
  have ha : ∀ i, List.getD hs i (zero (Ty.int IntKind.i64)) = hiAt hs i := fun _ => rfl
  have hs' : ∀ i, List.getD st i (zero S96) = stAt st i := fun _ => rfl
  have w1 : IntKind.i64.wrap (t - hiAt hs (hiV (st, hs, ()) t).toNat) = t - hiAt hs (hiV (st, hs, ()) t).toNat := w64 (by omega) (by omega)
  have e3 := F73_eq (stAt st (nearV (st, hs, ()) p).toNat) (t - hiAt hs (hiV (st, hs, ()) t).toNat)
  simp only [h1, h2, d1, d2, decide_false, cond_false, cond_true, Bool.or_self, ha, hs', w1, K73, G73, e3, Option.isSome_some, Option.getD_some]

theorem F69_eq (td : Den S48) (p : Nat × Nat) (t : Int) (h : TideG td) : F69 (td, p, t, ()) = some (streamV td p t) := by
  have e1 : F96 (td, p, ()) = some (nearV td p, ()) := F96_eq td p h
  have e2 : F97 (td, t, ()) = some (hiV td t, ()) := F97_eq td t h
  unfold F69 r69 streamV
  simp only [K96, G96, e1, K97, G97, e2, Option.isSome_some, Option.getD_some, cond_true]
  by_cases h1 : nearV td p < 0
  · simp only [h1, decide_true, cond_true, Bool.true_or]
  by_cases h2 : hiV td t < 0
  · simp only [h1, h2, decide_true, decide_false, cond_true, cond_false, Bool.or_true]
  obtain ⟨_, _, n3, n4⟩ := near_lt h1
  obtain ⟨hb, ht, q3, q4⟩ := hi_lt h2
  have d1 : (decide (0 ≤ nearV td p) && decide (nearV td p < (td.1.length : Int))) = true := by simp only [Bool.and_eq_true, decide_eq_true_eq]; exact ⟨n3, n4⟩
  have d2 : (decide (0 ≤ hiV td t) && decide (hiV td t < (td.2.1.length : Int))) = true := by simp only [Bool.and_eq_true, decide_eq_true_eq]; exact ⟨q3, q4⟩
  obtain ⟨st, hs, _⟩ := td
  have r3 := (hi_range hb).2.2 (hiV (st, hs, ()) t).toNat (by have q4 : hiV (st, hs, ()) t < (hs.length : Int) := q4; have q3 : 0 ≤ hiV (st, hs, ()) t := q3; omega)
  have ha : ∀ i, List.getD hs i (zero (Ty.int IntKind.i64)) = hiAt hs i := fun _ => rfl
  have hs' : ∀ i, List.getD st i (zero S96) = stAt st i := fun _ => rfl
  have w1 : IntKind.i64.wrap (t - hiAt hs (hiV (st, hs, ()) t).toNat) = t - hiAt hs (hiV (st, hs, ()) t).toNat := w64 (by omega) (by omega)
  have e3 := F98_eq (stAt st (nearV (st, hs, ()) p).toNat) (t - hiAt hs (hiV (st, hs, ()) t).toNat)
  simp only [h1, h2, d1, d2, decide_false, cond_false, cond_true, Bool.or_self, ha, hs', w1, K98, G98, e3, Option.isSome_some, Option.getD_some]

/-! ## Slack water -/

def le3 (a b : Nat) : Bool := flt .f32 a b || feq .f32 a b
def slackB (td : Den S48) (p : Nat × Nat) (m : Nat) (t : Int) : Bool := (streamV td p t).2.1 && (le3 (amt (streamV td p t).1.1) m && le3 (amt (streamV td p t).1.2) m)
def timeK (t : Int) (k : Nat) : Int := IntKind.i64.wrap (t + IntKind.i64.wrap (60 * (k : Int)))
def slackV (td : Den S48) (p : Nat × Nat) (t : Int) (m : Nat) : Int × Bool × Unit := match findFrom (fun k => slackB td p m (timeK t k)) 0 721 with
  | some k => (timeK t k, true, ())
  | none => (0, false, ())

theorem F26_eq (td : Den S48) (p : Nat × Nat) (t : Int) (m : Nat) (h : TideG td) : F26 (td, p, t, m, ()) = some (slackV td p t m) := by
  have hS := fun t => F28_eq td p t h
  obtain ⟨st, hs, _⟩ := td
  have hl : l26_2 ((p, t, m, (), 0, ()), (st, hs, ()), ()) = some (match findFrom (fun k => slackB (st, hs, ()) p m (timeK t k)) 0 721 with | some k => .inr ((timeK t k, true, ()), ()) | none => .inl ((), ())) := by
    refine (iter_find (q := q26_2 K28 G28 K67 G67) (fun k => ((p, t, m, (), (k : Int), ()), (st, hs, ()), ())) 721 (fun k => slackB (st, hs, ()) p m (timeK t k)) (.inl ((), ())) (fun k => .inr ((timeK t k, true, ()), ())) ?_ ?_ _ ?_ : _)
    · intro k f hk
      unfold q26_2 slackB
      have d1 : decide ((k : Int) ≤ 720) = true := by simp; omega
      have e0 : IntKind.i64.wrap (t + IntKind.i64.wrap (60 * (k : Int))) = timeK t k := rfl
      have e1 := hS (timeK t k)
      have e2 : ∀ a, F67 (a, ()) = some (amt a, ()) := F67_eq
      have e3 : ∀ a b, (flt FloatKind.f32 a b || feq FloatKind.f32 a b) = le3 a b := fun _ _ => rfl
      simp only [d1, cond_true, e0, K28, G28, e1, K67, G67, e2, e3, Option.isSome_some, Option.getD_some, w64n k (by omega)]
      generalize streamV (st, hs, ()) p (timeK t k) = y
      obtain ⟨v, ok, _⟩ := y
      cases ok
      · rfl
      · cases le3 (amt v.1) m
        · rfl
        · cases le3 (amt v.2) m <;> rfl
    · intro f
      simp [q26_2]
    · simp only [b26_2]; omega
  unfold F26 r26 slackV
  simp only [kL26_2, tL26_2, yL26_2, hl, Option.isSome_some, cond_true]
  cases findFrom (fun k => slackB (st, hs, ()) p m (timeK t k)) 0 721 <;> rfl

theorem F27_loop (td : Den S48) (p : Nat × Nat) (t : Int) (m : Nat) (h : TideG td) : l27_4 ((p, t, m, (), 0, ()), td, ()) = some (match findFrom (fun k => slackB td p m (timeK t k)) 0 721 with | some k => .inr ((timeK t k, true, ()), ()) | none => .inl ((), ())) := by
  have hS := fun t => F69_eq td p t h
  obtain ⟨st, hs, _⟩ := td
  refine (iter_find (q := q27_4 K68 G68 K22 G22 K39 G39 K69 G69 K70 G70) (fun k => ((p, t, m, (), (k : Int), ()), (st, hs, ()), ())) 721 (fun k => slackB (st, hs, ()) p m (timeK t k)) (.inl ((), ())) (fun k => .inr ((timeK t k, true, ()), ())) ?_ ?_ _ ?_ : _)
  · intro k f hk
    unfold q27_4 slackB
    have d1 : decide ((k : Int) ≤ 720) = true := by simp; omega
    have e0 : IntKind.i64.wrap (t + IntKind.i64.wrap (60 * (k : Int))) = timeK t k := rfl
    have e1 := hS (timeK t k)
    have e2 : ∀ a, F70 (a, ()) = some (amt a, ()) := F70_eq
    have e3 : ∀ a b, (flt FloatKind.f32 a b || feq FloatKind.f32 a b) = le3 a b := fun _ _ => rfl
    simp only [d1, cond_true, e0, K69, G69, e1, K70, G70, e2, e3, Option.isSome_some, Option.getD_some, w64n k (by omega)]
    generalize streamV (st, hs, ()) p (timeK t k) = y
    obtain ⟨v, ok, _⟩ := y
    cases ok
    · rfl
    · cases le3 (amt v.1) m
      · rfl
      · cases le3 (amt v.2) m <;> rfl
  · intro f
    simp [q27_4]
  · simp only [b27_4]; omega

theorem stream_off {td : Den S48} {p : Nat × Nat} {t : Int} (h : (streamV td p t).2.1 = true) : tideB td = true ∧ vecB p = true ∧ 0 ≤ t ∧ t ≤ 10000000 := by
  unfold streamV at h
  by_cases h1 : nearV td p < 0
  · rw [show decide (nearV td p < 0) = true by simpa using h1] at h
    cases h
  · by_cases h2 : hiV td t < 0
    · rw [show decide (hiV td t < 0) = true by simpa using h2, Bool.or_true] at h
      cases h
    · obtain ⟨a, b, _⟩ := near_lt h1
      obtain ⟨_, c, _⟩ := hi_lt h2
      exact ⟨a, b, c.1, c.2⟩
theorem slack_off {td : Den S48} {p : Nat × Nat} {m : Nat} {t : Int} (h : slackB td p m t = true) : tideB td = true ∧ vecB p = true ∧ 0 ≤ t ∧ t ≤ 10000000 := by
  unfold slackB at h
  simp only [Bool.and_eq_true] at h
  exact stream_off h.1
theorem timeK_in {t : Int} {k : Nat} (hk : k < 721) (h0 : -9223372036854775808 ≤ t ∧ t ≤ 9223372036854775807) (h : 0 ≤ timeK t k ∧ timeK t k ≤ 10000000) : timeK t k = t + 60 * (k : Int) := by
  unfold timeK at h ⊢
  rw [w64 (x := 60 * (k : Int)) (by omega) (by omega)] at h ⊢
  by_cases hb : t + 60 * (k : Int) ≤ 9223372036854775807
  · exact w64 (by omega) hb
  · exfalso
    rw [IntKind.wrap_i64] at h
    omega

theorem F27_ok (td : Den S48) (p : Nat × Nat) (t : Int) (m : Nat) (h : TideG td) (h0 : -9223372036854775808 ≤ t ∧ t ≤ 9223372036854775807) : ∃ y, F27 (td, p, t, m, ()) = some y ∧ y.2.1 = (slackV td p t m).2.1 := by
  have e1 : F68 (td, ()) = some (tideB td, ()) := F68_eq td h
  have e2 : F22 (p, ()) = some (vecB p, ()) := F22_eq p
  have e3 : F39 (t, -43260, 10000000, ()) = some (inB t (-43260) 10000000, ()) := F39_eq _ _ _
  have hl := F27_loop td p t m h
  have hno : (tideB td && (vecB p && inB t (-43260) 10000000)) = false → findFrom (fun k => slackB td p m (timeK t k)) 0 721 = none := by
    intro hf
    rw [findFrom_none]
    intro k _ hk
    cases hs : slackB td p m (timeK t k) with
    | false => rfl
    | true =>
      exfalso
      obtain ⟨a, b, c⟩ := slack_off hs
      have e := timeK_in (by omega) h0 c
      rw [e] at c
      rw [a, b] at hf
      simp only [Bool.true_and, inB, Bool.and_eq_false_iff, decide_eq_false_iff_not] at hf
      omega
  unfold F27 r27 slackV
  simp only [K68, G68, e1, K22, G22, e2, K39, G39, e3, Option.isSome_some, Option.getD_some, cond_true]
  cases hb : tideB td with
  | false => exact ⟨_, rfl, by rw [hno (by rw [hb]; rfl)]⟩
  | true =>
  cases hp : vecB p with
  | false => exact ⟨_, rfl, by rw [hno (by rw [hb, hp]; rfl)]⟩
  | true =>
  cases ht : inB t (-43260) 10000000 with
  | false => exact ⟨_, rfl, by rw [hno (by rw [hb, hp, ht]; rfl)]⟩
  | true =>
    simp only [Bool.not_true, cond_false, kL27_4, tL27_4, yL27_4, hl, Option.isSome_some, cond_true]
    cases findFrom (fun k => slackB td p m (timeK t k)) 0 721 with
    | none => exact ⟨_, rfl, rfl⟩
    | some k => exact ⟨_, rfl, rfl⟩

end Go.Proofs.Ytmmdjajebmihhaa.AM

/- Plainly: singles by their size; singles made doubles keep their order. Conditions: those that each lemma names. -/
namespace Go.Proofs.Ytmmdjajebmihhaa.AM
open Go Go.Proofs
set_option linter.unusedVariables false
set_option exponentiation.threshold 2000

theorem s_sw : Ieee.single.signWeight = 2 ^ 31 := by decide
theorem s_inf : Ieee.single.infRung = 255 * 2 ^ 23 := by decide
theorem s_bin : Ieee.single.binade = 2 ^ 23 := by decide
theorem s_lp : Ieee.single.leastPlace = -149 := by decide
theorem s_fb : Ieee.single.fractionBits = 23 := by decide

/-! ## Sizes -/

/-- A single is a number below a power of two. -/
def Sz (b : Nat) (N : Int) : Prop := ∃ s m e, Ieee.single.read b = .number s m e ∧ (m.log2 : Int) + e ≤ N ∧ -149 ≤ e
theorem Sz.mono {b : Nat} {N M : Int} (h : Sz b N) (hM : N ≤ M) : Sz b M := by
  obtain ⟨s, m, e, h1, h2, h3⟩ := h
  exact ⟨s, m, e, h1, by omega, h3⟩
def szB (b : Nat) (N : Int) : Bool := match Ieee.single.read b with
  | .number s m e => decide ((m.log2 : Int) + e ≤ N) && decide (-149 ≤ e)
  | _ => false
theorem szB_ok {b : Nat} {N : Int} (h : szB b N = true) : Sz b N := by
  unfold szB at h
  split at h
  · rename_i s m e hr
    simp only [Bool.and_eq_true, decide_eq_true_eq] at h
    exact ⟨s, m, e, hr, h.1, h.2⟩
  · cases h

theorem log2_le {M k : Nat} (h : M < 2 ^ (k + 1)) : M.log2 ≤ k := by
  rcases Nat.eq_zero_or_pos M with h0 | h0
  · subst h0; simp
  · have := Nat.log2_self_le (n := M) (by omega)
    have h2 := Nat.lt_of_le_of_lt this h
    have := (Nat.pow_lt_pow_iff_right (a := 2) (by decide)).1 h2
    omega

theorem cut_le (neg : Bool) (M d k : Nat) (h : M < 2 ^ (k + d)) : Ieee.Toward.even.cut neg M d ≤ 2 ^ k := by
  unfold Ieee.Toward.cut
  dsimp only
  rw [Nat.one_shiftLeft]
  by_cases hd : d ≤ M.log2 + 2
  · rw [Nat.min_eq_left hd]
    have h1 : M / 2 ^ d < 2 ^ k := by rw [Nat.div_lt_iff_lt_mul (Nat.two_pow_pos _), ← Nat.pow_add]; exact h
    generalize (decide (2 ^ d < 2 * (M % 2 ^ d)) || (2 ^ d == 2 * (M % 2 ^ d) && M / 2 ^ d % 2 == 1)) = b
    cases b <;> simp <;> omega
  · rw [Nat.min_eq_right (by omega)]
    have h0 : M < 2 ^ (M.log2 + 2) := Nat.lt_trans Nat.lt_log2_self (Nat.pow_lt_pow_right (by decide) (by omega))
    have h1 : M / 2 ^ (M.log2 + 2) = 0 := Nat.div_eq_of_lt h0
    rw [h1]
    have hk := Nat.two_pow_pos k
    generalize (decide (2 ^ (M.log2 + 2) < 2 * (M % 2 ^ (M.log2 + 2))) || (2 ^ (M.log2 + 2) == 2 * (M % 2 ^ (M.log2 + 2)) && 0 % 2 == 1)) = b
    cases b <;> simp <;> omega

theorem read_rung (neg : Bool) (r : Nat) (h : r < 255 * 2 ^ 23) : Ieee.single.read (Ieee.single.word neg r) = if r < 2 ^ 23 then .number neg r (-149) else .number neg (2 ^ 23 + r % 2 ^ 23) (-149 + ((r / 2 ^ 23 - 1 : Nat) : Int)) := by
  have hr : Ieee.single.word neg r % Ieee.single.signWeight = r := by
    unfold Ieee.Format.word
    rw [s_sw]
    split <;> omega
  have hn : (Ieee.single.word neg r / Ieee.single.signWeight % 2 == 1) = neg := by
    unfold Ieee.Format.word
    rw [s_sw]
    cases neg
    · rw [if_neg (by decide)]
      have : r / 2 ^ 31 = 0 := Nat.div_eq_of_lt (by omega)
      rw [this]; rfl
    · rw [if_pos rfl]
      have : (2 ^ 31 + r) / 2 ^ 31 = 1 := by omega
      rw [this]; rfl
  unfold Ieee.Format.read
  dsimp only
  rw [hr, hn, s_bin, s_inf, s_lp]
  by_cases c : r < 2 ^ 23
  · rw [if_pos c, if_pos c]
  · rw [if_neg c, if_neg c, if_pos h]

theorem near_sz (neg : Bool) (M : Nat) (p N : Int) (h : (M.log2 : Int) + p ≤ N) (hN : N ≤ 126) (hN2 : -126 ≤ N) : Sz (Ieee.single.nearest neg M p) (N + 1) := by
  have fin : ∀ r : Nat, (r : Int) ≤ (N + 126) * 2 ^ 23 + 2 ^ 24 → Sz (Ieee.single.word neg r) (N + 1) := by
    intro r hr
    have hlt : r < 255 * 2 ^ 23 := by omega
    have := read_rung neg r hlt
    by_cases c : r < 2 ^ 23
    · rw [if_pos c] at this
      refine ⟨_, _, _, this, ?_, Int.le_refl _⟩
      have := log2_le (k := 22) c
      omega
    · rw [if_neg c] at this
      refine ⟨_, _, _, this, ?_, by omega⟩
      have h1 : (2 ^ 23 + r % 2 ^ 23).log2 ≤ 23 := log2_le (k := 23) (by have := Nat.mod_lt r (show 2 ^ 23 > 0 by decide); omega)
      have h2 : ((r / 2 ^ 23 : Nat) : Int) ≤ N + 128 := by omega
      omega
  unfold Ieee.Format.nearest
  by_cases h0 : M = 0
  · rw [if_pos h0]
    exact fin 0 (by omega)
  · rw [if_neg h0, s_fb, s_lp, s_bin, s_inf]
    dsimp only
    have l2 : M < 2 ^ (M.log2 + 1) := Nat.lt_log2_self
    generalize hL : M.log2 = L at *
    obtain ⟨last, hlast⟩ : ∃ last, last = max (p + (L : Int) - (23 : Nat)) (-149) := ⟨_, rfl⟩
    rw [← hlast]
    have hl1 : p + (L : Int) - 23 ≤ last := by omega
    have hl2 : -149 ≤ last := by omega
    have hl3 : last ≤ N - 23 := by omega
    have hcut : Ieee.Toward.even.cut neg (M <<< (p - last).toNat) (last - p).toNat ≤ 2 ^ 24 := by
      refine cut_le _ _ _ 24 ?_
      rw [Nat.shiftLeft_eq]
      have h1 : M * 2 ^ (p - last).toNat < 2 ^ (L + 1 + (p - last).toNat) := by rw [Nat.pow_add]; exact Nat.mul_lt_mul_of_pos_right l2 (Nat.two_pow_pos _)
      exact Nat.lt_of_lt_of_le h1 (Nat.pow_le_pow_right (by decide) (by omega))
    generalize Ieee.Toward.even.cut neg (M <<< (p - last).toNat) (last - p).toNat = K at hcut
    have hk : (((last - -149).toNat * 2 ^ 23 + K : Nat) : Int) ≤ (N + 126) * 2 ^ 23 + 2 ^ 24 := by omega
    exact fin _ (Int.le_trans (Int.ofNat_le.2 (Nat.min_le_left _ _)) hk)

theorem signed_abs (s : Bool) (m k : Nat) : (Ieee.signed s m k).natAbs = m * 2 ^ k := by
  unfold Ieee.signed
  rw [Nat.shiftLeft_eq]
  cases s
  · rfl
  · rw [if_pos rfl, Int.natAbs_neg]; rfl

theorem sum_sz {s t : Bool} {m n : Nat} {e f N : Int} (h1 : (m.log2 : Int) + e ≤ N) (h2 : (n.log2 : Int) + f ≤ N) (he : -149 ≤ e) (hf : -149 ≤ f) (hN : N ≤ 125) (hN2 : -126 ≤ N) :
    ∃ r, (Ieee.Datum.sum (.number s m e) (.number t n f)).map Ieee.single.write = some r ∧ Sz r (N + 2) := by
  unfold Ieee.Datum.sum
  dsimp only
  refine ⟨_, rfl, ?_⟩
  obtain ⟨base, hb⟩ : ∃ base, base = min e f := ⟨_, rfl⟩
  rw [← hb]
  have e1 : N + 2 = N + 1 + 1 := by omega
  rw [e1]
  refine near_sz _ _ _ (N + 1) ?_ (by omega) (by omega)
  have hm : m * 2 ^ (e - base).toNat < 2 ^ (N + 1 - base).toNat := by
    rcases Nat.eq_zero_or_pos m with h0 | h0
    · rw [h0, Nat.zero_mul]; exact Nat.two_pow_pos _
    · have := Nat.lt_log2_self (n := m)
      have h3 : m * 2 ^ (e - base).toNat < 2 ^ (m.log2 + 1 + (e - base).toNat) := by rw [Nat.pow_add]; exact Nat.mul_lt_mul_of_pos_right this (Nat.two_pow_pos _)
      exact Nat.lt_of_lt_of_le h3 (Nat.pow_le_pow_right (by decide) (by omega))
  have hn : n * 2 ^ (f - base).toNat < 2 ^ (N + 1 - base).toNat := by
    rcases Nat.eq_zero_or_pos n with h0 | h0
    · rw [h0, Nat.zero_mul]; exact Nat.two_pow_pos _
    · have := Nat.lt_log2_self (n := n)
      have h3 : n * 2 ^ (f - base).toNat < 2 ^ (n.log2 + 1 + (f - base).toNat) := by rw [Nat.pow_add]; exact Nat.mul_lt_mul_of_pos_right this (Nat.two_pow_pos _)
      exact Nat.lt_of_lt_of_le h3 (Nat.pow_le_pow_right (by decide) (by omega))
  have a1 := signed_abs s m (e - base).toNat
  have a2 := signed_abs t n (f - base).toNat
  have hT : (Ieee.signed s m (e - base).toNat + Ieee.signed t n (f - base).toNat).natAbs < 2 ^ ((N + 1 - base).toNat + 1) := by
    rw [Nat.pow_succ]
    have := Int.natAbs_add_le (Ieee.signed s m (e - base).toNat) (Ieee.signed t n (f - base).toNat)
    omega
  generalize (Ieee.signed s m (e - base).toNat + Ieee.signed t n (f - base).toNat).natAbs = T at hT
  have hlog := log2_le hT
  by_cases hT0 : T = 0
  · subst hT0
    have : (0 : Nat).log2 = 0 := by decide
    rw [this]
    rcases (by omega : base = e ∨ base = f) with h | h <;> omega
  · have hp : (0 : Int) ≤ N + 1 - base := by
      rcases Int.lt_or_le (N + 1 - base) 0 with hlt | hle
      · exfalso
        have hz : (N + 1 - base).toNat = 0 := by omega
        have : T.log2 ≤ 0 := by omega
        -- both are nothing
        rcases (by omega : base = e ∨ base = f) with h | h
        · omega
        · omega
      · exact hle
    omega

theorem add_sz {a b : Nat} {N : Int} (ha : Sz a N) (hb : Sz b N) (hN : N ≤ 125) (hN2 : -126 ≤ N) : Sz (farith .add .f32 a b) (N + 2) := by
  obtain ⟨s, m, e, h1, h2, h3⟩ := ha
  obtain ⟨t, n, f, h4, h5, h6⟩ := hb
  obtain ⟨r, e1, hr⟩ := sum_sz (s := s) (t := t) h2 h5 h3 h6 hN hN2
  have : farith .add .f32 a b = (((Ieee.single.read a).sum (Ieee.single.read b)).map Ieee.single.write).getD (qn .f32) := rfl
  rw [this, h1, h4, e1]
  exact hr
theorem sub_sz {a b : Nat} {N : Int} (ha : Sz a N) (hb : Sz b N) (hN : N ≤ 125) (hN2 : -126 ≤ N) : Sz (farith .sub .f32 a b) (N + 2) := by
  obtain ⟨s, m, e, h1, h2, h3⟩ := ha
  obtain ⟨t, n, f, h4, h5, h6⟩ := hb
  obtain ⟨r, e1, hr⟩ := sum_sz (s := s) (t := !t) h2 h5 h3 h6 hN hN2
  have : farith .sub .f32 a b = (((Ieee.single.read a).sum (Ieee.single.read b).opposite).map Ieee.single.write).getD (qn .f32) := rfl
  rw [this, h1, h4]
  show Sz ((((Ieee.Datum.number s m e).sum (Ieee.Datum.number (!t) n f)).map Ieee.single.write).getD (qn .f32)) _
  rw [e1]
  exact hr
theorem mul_sz {a b : Nat} {N M : Int} (ha : Sz a N) (hb : Sz b M) (hN : N + M ≤ 125) (hN2 : -127 ≤ N + M) : Sz (farith .mul .f32 a b) (N + M + 2) := by
  obtain ⟨s, m, e, h1, h2, h3⟩ := ha
  obtain ⟨t, n, f, h4, h5, h6⟩ := hb
  have : farith .mul .f32 a b = (((Ieee.single.read a).product (Ieee.single.read b)).map Ieee.single.write).getD (qn .f32) := rfl
  rw [this, h1, h4]
  show Sz (Ieee.single.nearest (s ^^ t) (m * n) (e + f)) _
  have e1 : N + M + 2 = N + M + 1 + 1 := by omega
  rw [e1]
  refine near_sz _ _ _ (N + M + 1) ?_ (by omega) (by omega)
  have hl : (m * n).log2 ≤ m.log2 + n.log2 + 1 := by
    refine log2_le ?_
    have l1 := Nat.lt_log2_self (n := m)
    have l2 := Nat.lt_log2_self (n := n)
    have : m * n < 2 ^ (m.log2 + 1) * 2 ^ (n.log2 + 1) := Nat.mul_lt_mul'' l1 l2
    rw [← Nat.pow_add] at this
    exact Nat.lt_of_lt_of_le this (Nat.pow_le_pow_right (by decide) (by omega))
  omega
end Go.Proofs.Ytmmdjajebmihhaa.AM

/- Plainly: singles made doubles keep their values and orders; streams are numbers. Conditions: those that each lemma names. -/
namespace Go.Proofs.Ytmmdjajebmihhaa.AM
open Go Go.Proofs
set_option linter.unusedVariables false
set_option exponentiation.threshold 2000

/-- A single is a number of this value, in units of a double's least place. -/
def isS (b : Nat) (v : Int) : Prop := ∃ (s : Bool) (m c : Nat), Ieee.single.read b = .number s m ((c : Int) - 1074) ∧ v = VU s m c
theorem sz_isS {b : Nat} {N : Int} (h : Sz b N) : ∃ v, isS b v := by
  obtain ⟨s, m, e, h1, _, h3⟩ := h
  refine ⟨_, s, m, (e + 1074).toNat, ?_, rfl⟩
  rw [h1]
  congr 1
  omega
theorem ordS {a b : Nat} {x y : Int} (ha : isS a x) (hb : isS b y) : FloatKind.f32.format.order a b = some (compare x y) := by
  obtain ⟨s, m, c, h1, rfl⟩ := ha
  obtain ⟨t, n, d, h2, rfl⟩ := hb
  show (Ieee.single.read a).order (Ieee.single.read b) = _
  rw [h1, h2]
  exact order_V s t m n c d
theorem isS_zero : isS 0 0 := by
  refine ⟨false, 0, 925, by decide, ?_⟩
  unfold VU
  simp
theorem isD_zero : isD 0 0 := by
  refine ⟨false, 0, 0, by decide, ?_⟩
  unfold VU
  simp
theorem VU_opp (s : Bool) (m c : Nat) : VU (!s) m c = -VU s m c := by
  unfold VU
  cases s
  · rfl
  · simp

theorem ltS {a b : Nat} {x y : Int} (ha : isS a x) (hb : isS b y) : flt .f32 a b = decide (x < y) := by
  unfold flt
  rw [ordS ha hb, Int.compare_eq_ite_lt]
  by_cases h1 : x < y
  · rw [if_pos h1]; simp [h1]
  · rw [if_neg h1]
    by_cases h2 : y < x
    · rw [if_pos h2]; simp [h1]
    · rw [if_neg h2]; simp [h1]
theorem leS {a b : Nat} {x y : Int} (ha : isS a x) (hb : isS b y) : le3 a b = decide (x ≤ y) := by
  unfold le3 flt feq
  rw [ordS ha hb, Int.compare_eq_ite_lt]
  by_cases h1 : x < y
  · rw [if_pos h1]; simp; omega
  · rw [if_neg h1]
    by_cases h2 : y < x
    · rw [if_pos h2]; simp; omega
    · rw [if_neg h2]; simp; omega
theorem ltD {a b : Nat} {x y : Int} (ha : isD a x) (hb : isD b y) : flt .f64 a b = decide (x < y) := by
  unfold flt
  rw [ordD ha hb, Int.compare_eq_ite_lt]
  by_cases h1 : x < y
  · rw [if_pos h1]; simp [h1]
  · rw [if_neg h1]
    by_cases h2 : y < x
    · rw [if_pos h2]; simp [h1]
    · rw [if_neg h2]; simp [h1]
theorem gtD {a b : Nat} {x y : Int} (ha : isD a x) (hb : isD b y) : fgt .f64 a b = decide (y < x) := by
  unfold fgt
  rw [ordD ha hb, Int.compare_eq_ite_lt]
  by_cases h1 : x < y
  · rw [if_pos h1]; simp; omega
  · rw [if_neg h1]
    by_cases h2 : y < x
    · rw [if_pos h2]; simp [h2]
    · rw [if_neg h2]; simp [h2]

theorem read_neg32 (a : Nat) : Ieee.single.read (fneg .f32 a) = (Ieee.single.read a).opposite := by
  have hf : fneg .f32 a = a ^^^ 2 ^ 31 := rfl
  rw [hf]
  unfold Ieee.Format.read
  dsimp only
  rw [s_sw]
  have e1 : (a ^^^ 2 ^ 31) % 2 ^ 31 = a % 2 ^ 31 := by rw [Nat.xor_mod_two_pow, Nat.mod_self, Nat.xor_zero]
  have e2 : ((a ^^^ 2 ^ 31) / 2 ^ 31 % 2 == 1) = !(a / 2 ^ 31 % 2 == 1) := by
    rw [Nat.xor_div_two_pow, Nat.div_self (by decide)]
    have h1 : (a / 2 ^ 31 ^^^ 1) % 2 = (a / 2 ^ 31 % 2) ^^^ 1 := by
      have := Nat.xor_mod_two_pow (a := a / 2 ^ 31) (b := 1) (n := 1)
      simpa using this
    rw [h1]
    rcases Nat.mod_two_eq_zero_or_one (a / 2 ^ 31) with h | h <;> rw [h] <;> rfl
  rw [e1, e2]
  split
  · rfl
  · split
    · rfl
    · split <;> rfl

theorem isS_amt {a : Nat} {v : Int} (h : isS a v) : isS (amt a) (v.natAbs : Int) := by
  have hl := ltS h isS_zero
  unfold amt
  rw [hl]
  by_cases hv : v < 0
  · rw [show decide (v < 0) = true by simpa using hv, cond_true]
    obtain ⟨s, m, c, h1, h2⟩ := h
    refine ⟨!s, m, c, by rw [read_neg32, h1]; rfl, ?_⟩
    rw [VU_opp, ← h2]
    omega
  · rw [show decide (v < 0) = false by simpa using hv, cond_false]
    have : (v.natAbs : Int) = v := by omega
    rw [this]
    exact h
theorem isD_amt {a : Nat} {v : Int} (h : isD a v) : isD (amtD a) (v.natAbs : Int) := by
  have hl := ltD h isD_zero
  unfold amtD
  rw [hl]
  by_cases hv : v < 0
  · rw [show decide (v < 0) = true by simpa using hv, cond_true]
    obtain ⟨s, m, c, h1, h2⟩ := h
    refine ⟨!s, m, c, by rw [read_neg, h1]; rfl, ?_⟩
    rw [VU_opp, ← h2]
    omega
  · rw [show decide (v < 0) = false by simpa using hv, cond_false]
    have : (v.natAbs : Int) = v := by omega
    rw [this]
    exact h

/-- What has few digits is a double. -/
theorem near_exact (neg : Bool) (M c : Nat) (hM : M < 2 ^ 53) (hc : 52 ≤ c) (hlc : M.log2 + c < 2000) : isD (Ieee.double.nearest neg M ((c : Int) - 1074)) (VU neg M c) := by
  by_cases h0 : M = 0
  · subst h0
    obtain ⟨m', c', h6, h7⟩ := readD_word neg 0 0 (by decide) (.inl ⟨rfl, by decide⟩)
    refine ⟨neg, m', c', ?_, ?_⟩
    · unfold Ieee.Format.nearest
      rw [if_pos rfl]
      rw [Nat.zero_mul] at h6
      exact h6
    · unfold VU
      rw [h7]
      simp
  · have hL52 : M.log2 ≤ 52 := log2_le (k := 52) hM
    have l1 : 2 ^ M.log2 ≤ M := Nat.log2_self_le h0
    have l2 : M < 2 ^ (M.log2 + 1) := Nat.lt_log2_self
    have key : ∃ K e : Nat, Ieee.double.nearest neg M ((c : Int) - 1074) = Ieee.double.word neg (e * 2 ^ 52 + K) ∧ e * 2 ^ 52 + K < 2047 * 2 ^ 52 ∧ ((e = 0 ∧ K ≤ 2 ^ 53) ∨ (2 ^ 52 ≤ K ∧ K ≤ 2 ^ 53)) ∧ K * 2 ^ e = M * 2 ^ c := by
      unfold Ieee.Format.nearest
      rw [if_neg h0, d_fb, d_lp, d_bin, d_inf]
      dsimp only
      generalize hL : M.log2 = L at *
      have hlast : max ((c : Int) - 1074 + (L : Int) - (52 : Nat)) (-1074) = (c : Int) - 1074 + (L : Int) - 52 := by omega
      rw [hlast]
      have e1 : ((c : Int) - 1074 - ((c : Int) - 1074 + (L : Int) - 52)).toNat = 52 - L := by omega
      have e2 : (((c : Int) - 1074 + (L : Int) - 52) - ((c : Int) - 1074)).toNat = 0 := by omega
      have e3 : (((c : Int) - 1074 + (L : Int) - 52) - -1074).toNat = c + L - 52 := by omega
      rw [e1, e2, e3, cut_zero, Nat.shiftLeft_eq]
      have hk1 : M * 2 ^ (52 - L) < 2 ^ 53 := by
        have h1 : M * 2 ^ (52 - L) < 2 ^ (L + 1) * 2 ^ (52 - L) := Nat.mul_lt_mul_of_pos_right l2 (Nat.two_pow_pos _)
        rw [← Nat.pow_add, show L + 1 + (52 - L) = 53 by omega] at h1
        exact h1
      have hk2 : 2 ^ 52 ≤ M * 2 ^ (52 - L) := by
        have h1 : 2 ^ L * 2 ^ (52 - L) ≤ M * 2 ^ (52 - L) := Nat.mul_le_mul_right _ l1
        rw [← Nat.pow_add, show L + (52 - L) = 52 by omega] at h1
        exact h1
      have hv : M * 2 ^ (52 - L) * 2 ^ (c + L - 52) = M * 2 ^ c := by
        rw [Nat.mul_assoc, ← Nat.pow_add]
        congr 2
        omega
      refine ⟨M * 2 ^ (52 - L), c + L - 52, ?_, by generalize M * 2 ^ (52 - L) = q at *; clear l1 l2; omega, .inr ⟨hk2, Nat.le_of_lt hk1⟩, hv⟩
      rw [Nat.min_eq_left (by omega)]
    obtain ⟨K, e, h1, h2, h3, h4⟩ := key
    obtain ⟨m', c', h5, h6⟩ := readD_word neg K e h2 h3
    refine ⟨neg, m', c', by rw [h1]; exact h5, ?_⟩
    unfold VU
    rw [h6, h4]

theorem isD_conv {a : Nat} {v : Int} (h : isS a v) : isD (convF .f32 .f64 a).2 v := by
  obtain ⟨s, m, c, h1, rfl⟩ := h
  obtain ⟨hm, he, he2⟩ := single_number (b := a) (show FloatKind.f32.decode a = _ from h1)
  have : (convF .f32 .f64 a).2 = Ieee.double.nearest s m ((c : Int) - 1074) := by
    show refloat .f32 .f64 a = _
    unfold refloat
    rw [show FloatKind.f32.decode a = .number s m ((c : Int) - 1074) from h1]
    rfl
  rw [this]
  have hl := log2_le (k := 23) hm
  exact near_exact s m c (by omega) (by omega) (by omega)

theorem widen_gt {a m : Nat} {v w : Int} (ha : isS a v) (hm : isS m w) : fgt .f64 (amtD (convF .f32 .f64 a).2) (convF .f32 .f64 m).2 = !le3 (amt a) m := by
  rw [gtD (isD_amt (isD_conv ha)) (isD_conv hm), leS (isS_amt ha) hm]
  by_cases h : w < (v.natAbs : Int)
  · rw [show decide (w < (v.natAbs : Int)) = true by simpa using h, show decide ((v.natAbs : Int) ≤ w) = false by simp; omega]; rfl
  · rw [show decide (w < (v.natAbs : Int)) = false by simpa using h, show decide ((v.natAbs : Int) ≤ w) = true by simp; omega]; rfl

/-! ## Streams are numbers -/

theorem le100_sz {a : Nat} (h : le100 a = true) : Sz a 6 := by
  have hamt : ∀ b, (flt .f32 b 1120403456 || feq .f32 b 1120403456) = true → (∀ s, Ieee.single.read b ≠ .infinity s) → Sz b 6 ∨ ∃ m e, Ieee.single.read b = .number true m e := by
    intro b hb hinf
    have ho : FloatKind.f32.format.order b 1120403456 = (Ieee.single.read b).order (Ieee.single.read 1120403456) := rfl
    have hr : Ieee.single.read 1120403456 = .number false 13107200 (-17) := by decide +kernel
    unfold flt feq at hb
    rw [ho, hr] at hb
    cases hq : Ieee.single.read b with
    | nan s f => rw [hq] at hb; simp [Ieee.Datum.order] at hb
    | infinity s => exact absurd hq (hinf s)
    | number s m e =>
      cases s with
      | true => exact .inr ⟨m, e, rfl⟩
      | false =>
        left
        have hsn := single_number (b := b) (show FloatKind.f32.decode b = _ from hq)
        refine ⟨_, m, e, hq, ?_, hsn.2.1⟩
        rw [hq] at hb
        unfold Ieee.Datum.order Ieee.signed at hb
        simp only [Bool.false_eq_true, if_false, Nat.shiftLeft_eq, Int.compare_eq_ite_lt] at hb
        have hle : m * 2 ^ (e - min e (-17)).toNat ≤ 13107200 * 2 ^ ((-17 : Int) - min e (-17)).toNat := by
          by_cases c : ((m * 2 ^ (e - min e (-17)).toNat : Nat) : Int) < ((13107200 * 2 ^ ((-17 : Int) - min e (-17)).toNat : Nat) : Int)
          · omega
          · rw [if_neg c] at hb
            split at hb
            · simp at hb
            · omega
        rcases Int.lt_or_le 6 ((m.log2 : Int) + e) with hlt | hle6
        · exfalso
          have hm0 : m ≠ 0 := by
            intro h0; subst h0
            have : (0 : Nat).log2 = 0 := by decide
            rw [this] at hlt
            obtain ⟨_, q1, q2⟩ := hsn
            have hz : 0 * 2 ^ (e - min e (-17)).toNat = 0 := Nat.zero_mul _
            -- the number is nothing: its place is the least one
            have := single_number (b := b) (show FloatKind.f32.decode b = _ from hq)
            unfold Ieee.Format.read at hq
            dsimp only at hq
            rw [s_bin, s_inf, s_lp] at hq
            split at hq
            · injection hq with _ _ h3; omega
            · split at hq
              · injection hq with _ h2 _; omega
              · split at hq <;> cases hq
          have l1 := Nat.log2_self_le hm0
          have h2 : 2 ^ (m.log2 + (e - min e (-17)).toNat) ≤ m * 2 ^ (e - min e (-17)).toNat := by rw [Nat.pow_add]; exact Nat.mul_le_mul_right _ l1
          have h3 : 13107200 * 2 ^ ((-17 : Int) - min e (-17)).toNat < 2 ^ 24 * 2 ^ ((-17 : Int) - min e (-17)).toNat := Nat.mul_lt_mul_of_pos_right (by decide) (Nat.two_pow_pos _)
          rw [← Nat.pow_add] at h3
          have h4 := Nat.lt_of_le_of_lt (Nat.le_trans h2 hle) h3
          have h5 := (Nat.pow_lt_pow_iff_right (a := 2) (by decide)).1 h4
          omega
        · exact hle6
  unfold le100 at h
  have ho : flt .f32 a 0 = ((Ieee.single.read a).order (.number false 0 (-149)) == some .lt) := by
    show ((Ieee.single.read a).order (Ieee.single.read 0) == some .lt) = _
    rw [show Ieee.single.read 0 = .number false 0 (-149) by decide]
  cases hq : Ieee.single.read a with
  | nan s f =>
    have : amt a = a := by unfold amt; rw [ho, hq]; rfl
    rw [this] at h
    rcases hamt a h (fun s => by rw [hq]; exact fun e => by cases e) with h1 | ⟨m, e, h1⟩
    · exact h1
    · rw [hq] at h1; cases h1
  | infinity s =>
    exfalso
    have hr : Ieee.single.read 1120403456 = .number false 13107200 (-17) := by decide +kernel
    have hb : Ieee.single.read (amt a) = .infinity false := by
      unfold amt
      rw [ho, hq]
      cases s with
      | true => show Ieee.single.read (fneg .f32 a) = _; rw [read_neg32, hq]; rfl
      | false => exact hq
    have o2 : FloatKind.f32.format.order (amt a) 1120403456 = (Ieee.single.read (amt a)).order (Ieee.single.read 1120403456) := rfl
    unfold flt feq at h
    rw [o2, hb, hr] at h
    simp [Ieee.Datum.order] at h
  | number s m e =>
    have hsn := single_number (b := a) (show FloatKind.f32.decode a = _ from hq)
    have hv : ∃ v, isS a v := ⟨_, s, m, (e + 1074).toNat, by rw [hq]; congr 1; omega, rfl⟩
    obtain ⟨v, hv⟩ := hv
    obtain ⟨s', m', c', r1, r2⟩ := isS_amt hv
    rcases hamt (amt a) h (fun s => by rw [r1]; exact fun e => by cases e) with h1 | ⟨m2, e2, h1⟩
    · -- the amount has the same digits
      obtain ⟨s3, m3, e3, q1, q2, q3⟩ := h1
      have hsame : Ieee.single.read (amt a) = .number s m e ∨ Ieee.single.read (amt a) = .number (!s) m e := by
        unfold amt
        cases flt .f32 a 0
        · left; exact hq
        · right; rw [cond_true, read_neg32, hq]; rfl
      rcases hsame with h5 | h5
      · rw [h5] at q1; injection q1 with _ i2 i3; subst i2; subst i3; exact ⟨s, m, e, hq, q2, q3⟩
      · rw [h5] at q1; injection q1 with _ i2 i3; subst i2; subst i3; exact ⟨s, m, e, hq, q2, q3⟩
    · -- a minus before an amount: it is nothing
      rw [r1] at h1
      injection h1 with i1 i2 i3
      subst i1
      have hz : m' * 2 ^ c' = 0 := by
        unfold VU at r2
        simp only [if_true] at r2
        omega
      have hm0 : m' = 0 := by
        rcases Nat.mul_eq_zero.1 hz with h | h
        · exact h
        · exact absurd h (Nat.ne_of_gt (Nat.two_pow_pos _))
      have hsame : Ieee.single.read (amt a) = .number s m e ∨ Ieee.single.read (amt a) = .number (!s) m e := by
        unfold amt
        cases flt .f32 a 0
        · left; exact hq
        · right; rw [cond_true, read_neg32, hq]; rfl
      have hm : m = 0 := by
        rcases hsame with h5 | h5
        · rw [r1] at h5; injection h5 with _ i2 _; omega
        · rw [r1] at h5; injection h5 with _ i2 _; omega
      subst hm
      have : (0 : Nat).log2 = 0 := by decide
      refine ⟨s, 0, e, hq, ?_, hsn.2.1⟩
      rw [this]
      unfold Ieee.Format.read at hq
      dsimp only at hq
      rw [s_bin, s_inf, s_lp] at hq
      split at hq
      · injection hq with _ _ h3; omega
      · split at hq
        · injection hq with _ h2 _; omega
        · split at hq <;> cases hq

theorem share_all : allFrom (fun r => szB (share (r : Int)) 0) 1 3599 = true := by decide +kernel
theorem share_sz {r : Int} (h1 : 1 ≤ r) (h2 : r < 3600) : Sz (share r) 0 := by
  have := allFrom_iff.1 share_all r.toNat (by omega) (by omega)
  have e : ((r.toNat : Nat) : Int) = r := by omega
  rw [e] at this
  exact szB_ok this
theorem mix_sz {a b q : Nat} (ha : Sz a 6) (hb : Sz b 6) (hq : Sz q 0) : Sz (mixV a b q) 12 := by
  have h1 := sub_sz hb ha (by decide) (by decide)
  have h2 := mul_sz h1 hq (by decide) (by decide)
  exact add_sz (ha.mono (show (6 : Int) ≤ 10 by decide)) h2 (by decide) (by decide)

theorem flow_sz {s : Den S96} {off : Int} (h : (flowV s off).2.1 = true) : Sz (flowV s off).1.1 12 ∧ Sz (flowV s off).1.2 12 := by
  obtain ⟨c1, c2⟩ := clamp_in off
  unfold flowV at h ⊢
  cases hb : hourB (flows s) with
  | false => rw [hb] at h; cases h
  | true =>
    have hall : ∀ i, i < 13 → Sz (atV (flows s) i).1 6 ∧ Sz (atV (flows s) i).2 6 := by
      intro i hi
      unfold hourB at hb
      have := allFrom_iff.1 hb i (Nat.zero_le _) (by rw [flows_len]; omega)
      unfold velB at this
      simp only [Bool.and_eq_true] at this
      exact ⟨le100_sz this.1, le100_sz this.2⟩
    simp only [Bool.not_true, cond_false]
    by_cases hz : (clampV off + 21600) % 3600 = 0
    · rw [show ((clampV off + 21600) % 3600 == 0) = true by simpa using hz, cond_true]
      obtain ⟨q1, q2⟩ := hall ((clampV off + 21600) / 3600).toNat (by omega)
      exact ⟨q1.mono (by decide), q2.mono (by decide)⟩
    · rw [show ((clampV off + 21600) % 3600 == 0) = false by simpa using hz, cond_false]
      obtain ⟨q1, q2⟩ := hall ((clampV off + 21600) / 3600).toNat (by omega)
      obtain ⟨q3, q4⟩ := hall ((clampV off + 21600) / 3600 + 1).toNat (by omega)
      have hs := share_sz (r := (clampV off + 21600) % 3600) (by omega) (by omega)
      exact ⟨mix_sz q1 q3 hs, mix_sz q2 q4 hs⟩
theorem stream_num {td : Den S48} {p : Nat × Nat} {t : Int} (h : (streamV td p t).2.1 = true) : (∃ v, isS (streamV td p t).1.1 v) ∧ ∃ w, isS (streamV td p t).1.2 w := by
  unfold streamV at h ⊢
  cases hc : decide (nearV td p < 0) || decide (hiV td t < 0) with
  | true => rw [hc] at h; cases h
  | false =>
    rw [hc] at h
    obtain ⟨h1, h2⟩ := flow_sz (show (flowV (stAt td.1 (nearV td p).toNat) (t - hiAt td.2.1 (hiV td t).toNat)).2.1 = true from h)
    exact ⟨sz_isS h1, sz_isS h2⟩
theorem most_all : allFrom (fun d => szB (farith .quo .f32 (FloatKind.nearest .f32 (IntKind.i64.wrap ((d : Int) - 1))) 1098907648) 6) 0 20 = true := by decide +kernel
theorem most_num {m : Nat} (h : mostG m) : ∃ w, isS m w := by
  obtain ⟨d, h1, h2, rfl⟩ := h
  have := allFrom_iff.1 most_all d.toNat (Nat.zero_le _) (by omega)
  have e : ((d.toNat : Nat) : Int) = d := by omega
  rw [e] at this
  exact sz_isS (szB_ok this)

end Go.Proofs.Ytmmdjajebmihhaa.AM

/- Plainly: doubles as rational numbers, and how far a result may lie from the true one. Conditions: those that each lemma names. -/
namespace Go.Proofs.Ytmmdjajebmihhaa.AM
open Go Go.Proofs
set_option linter.unusedVariables false
set_option exponentiation.threshold 2000

/-! ## Powers of two -/

def p2 (e : Int) : Rat := (2 : Rat) ^ e
theorem p2_pos (e : Int) : 0 < p2 e := Rat.zpow_pos (by decide)
theorem p2_add (a b : Int) : p2 (a + b) = p2 a * p2 b := Rat.zpow_add (by decide) a b
theorem p2_nat (n : Nat) : p2 (n : Int) = ((2 ^ n : Nat) : Rat) := by
  unfold p2
  rw [Rat.zpow_natCast, Rat.natCast_pow]
  rfl
theorem p2_nat_one (n : Nat) : 1 ≤ p2 (n : Int) := by
  rw [p2_nat]
  have : 1 ≤ 2 ^ n := Nat.one_le_two_pow
  exact_mod_cast this
theorem p2_le {a b : Int} (h : a ≤ b) : p2 a ≤ p2 b := by
  have e : b = a + ((b - a).toNat : Int) := by omega
  rw [e, p2_add]
  have h1 := p2_nat_one (b - a).toNat
  have h2 := p2_pos a
  generalize p2 ((b - a).toNat : Int) = y at *
  generalize p2 a = x at *
  have := Rat.mul_nonneg (Rat.le_of_lt h2) (show 0 ≤ y - 1 by grind)
  grind
theorem p2_lt_imp {a b : Int} (h : p2 a < p2 b) : a < b := by
  apply Classical.byContradiction
  intro hn
  have := p2_le (show b ≤ a by omega)
  grind
theorem p2_succ (a : Int) : p2 (a + 1) = 2 * p2 a := by
  rw [p2_add]
  have : p2 1 = 2 := by unfold p2; rw [Rat.zpow_one]
  rw [this]; grind

theorem natCast_mono {a b : Nat} (h : a ≤ b) : (a : Rat) ≤ (b : Rat) := Rat.natCast_le_natCast.2 h
theorem mul_mono {a b c : Rat} (h : a ≤ b) (hc : 0 ≤ c) : a * c ≤ b * c := Rat.mul_le_mul_of_nonneg_right h hc
theorem natCast_nn (a : Nat) : (0 : Rat) ≤ (a : Rat) := by
  have := natCast_mono (Nat.zero_le a)
  simpa using this

/-! ## Values -/

def sgR (s : Bool) : Rat := if s then -1 else 1
def RV (s : Bool) (m : Nat) (e : Int) : Rat := sgR s * (m : Rat) * p2 e
/-- A double is a number. -/
def IsR (w : Nat) (q : Rat) : Prop := ∃ (s : Bool) (m : Nat) (e : Int), Ieee.double.read w = .number s m e ∧ -1074 ≤ e ∧ q = RV s m e

/-- Two numbers are near each other. -/
def Near (a b ε : Rat) : Prop := a ≤ b + ε ∧ b ≤ a + ε

theorem cut_near (neg : Bool) (N d : Nat) : 2 * (Ieee.Toward.even.cut neg N d * 2 ^ d) ≤ 2 * N + 2 ^ d ∧ 2 * N ≤ 2 * (Ieee.Toward.even.cut neg N d * 2 ^ d) + 2 ^ d := by
  unfold Ieee.Toward.cut
  dsimp only
  rw [Nat.one_shiftLeft]
  by_cases hd : d ≤ N.log2 + 2
  · rw [Nat.min_eq_left hd]
    have h1 := Nat.div_add_mod N (2 ^ d)
    have h2 := Nat.mod_lt N (Nat.two_pow_pos d)
    generalize hb : (decide (2 ^ d < 2 * (N % 2 ^ d)) || (2 ^ d == 2 * (N % 2 ^ d) && N / 2 ^ d % 2 == 1)) = b
    have hg : b = true → 2 ^ d ≤ 2 * (N % 2 ^ d) := by
      intro h
      rw [h] at hb
      simp only [Bool.or_eq_true, decide_eq_true_eq, Bool.and_eq_true, beq_iff_eq] at hb
      omega
    have hl : b = false → 2 * (N % 2 ^ d) ≤ 2 ^ d := by
      intro h
      rw [h] at hb
      simp only [Bool.or_eq_false_iff, decide_eq_false_iff_not] at hb
      omega
    generalize 2 ^ d = g at *
    generalize N / g = q at *
    generalize N % g = r at *
    have e1 : q * g = g * q := Nat.mul_comm _ _
    cases b
    · have := hl rfl
      simp only [Bool.toNat_false, Nat.add_zero]
      omega
    · have := hg rfl
      simp only [Bool.toNat_true, Nat.add_mul, Nat.one_mul]
      omega
  · rw [Nat.min_eq_right (by omega)]
    have h0 : N < 2 ^ (N.log2 + 1) := Nat.lt_log2_self
    have h00 : 2 ^ (N.log2 + 2) = 2 * 2 ^ (N.log2 + 1) := by rw [Nat.pow_succ]; omega
    have h1 : N / 2 ^ (N.log2 + 2) = 0 := Nat.div_eq_of_lt (by omega)
    have h2 : N % 2 ^ (N.log2 + 2) = N := Nat.mod_eq_of_lt (by omega)
    have h3 : 2 ^ (N.log2 + 2) ≤ 2 ^ d := Nat.pow_le_pow_right (by decide) (by omega)
    rw [h1, h2]
    have : (decide (2 ^ (N.log2 + 2) < 2 * N) || (2 ^ (N.log2 + 2) == 2 * N && 0 % 2 == 1)) = false := by
      simp only [Bool.or_eq_false_iff, decide_eq_false_iff_not, Bool.and_eq_false_iff]
      exact ⟨by omega, .inr rfl⟩
    rw [this]
    simp only [Bool.toNat_false, Nat.add_zero, Nat.zero_mul]
    omega

theorem cut_ge (neg : Bool) (N d k : Nat) (h : 2 ^ (k + d) ≤ N) : 2 ^ k ≤ Ieee.Toward.even.cut neg N d := by
  unfold Ieee.Toward.cut
  dsimp only
  rw [Nat.one_shiftLeft]
  have hd : d ≤ N.log2 + 2 := by
    have h1 : N < 2 ^ (N.log2 + 1) := Nat.lt_log2_self
    have := (Nat.pow_lt_pow_iff_right (a := 2) (by decide)).1 (Nat.lt_of_le_of_lt h h1)
    omega
  rw [Nat.min_eq_left hd]
  have h1 : 2 ^ k ≤ N / 2 ^ d := by rw [Nat.le_div_iff_mul_le (Nat.two_pow_pos _), ← Nat.pow_add]; exact h
  exact Nat.le_trans h1 (Nat.le_add_right _ _)

theorem IsR_zero_word (neg : Bool) : IsR (Ieee.double.word neg 0) 0 := by
  refine ⟨neg, 0, -1074, ?_, Int.le_refl _, ?_⟩
  · cases neg <;> decide
  · unfold RV; grind

theorem near_err (neg : Bool) (M : Nat) (p B : Int) (h0 : M ≠ 0) (hB : (M.log2 : Int) + p ≤ B) (h1 : -1022 ≤ B) (h2 : B ≤ 1022) :
    ∃ r, IsR (Ieee.double.nearest neg M p) r ∧ Near r (RV neg M p) (p2 (B - 53)) := by
  unfold Ieee.Format.nearest
  rw [if_neg h0, d_fb, d_lp, d_bin, d_inf]
  dsimp only
  have l1 : 2 ^ M.log2 ≤ M := Nat.log2_self_le h0
  have l2 : M < 2 ^ (M.log2 + 1) := Nat.lt_log2_self
  generalize hL : M.log2 = L at *
  obtain ⟨last, hlast⟩ : ∃ last, last = max (p + (L : Int) - (52 : Nat)) (-1074) := ⟨_, rfl⟩
  rw [← hlast]
  have hl1 : p + (L : Int) - 52 ≤ last := by omega
  have hl2 : -1074 ≤ last := by omega
  have hl3 : last ≤ B - 52 := by omega
  have hl4 : last = p + (L : Int) - 52 ∨ last = -1074 := by omega
  obtain ⟨up, hup⟩ : ∃ up, up = (p - last).toNat := ⟨_, rfl⟩
  obtain ⟨d, hd⟩ : ∃ d, d = (last - p).toNat := ⟨_, rfl⟩
  rw [← hup, ← hd, Nat.shiftLeft_eq]
  have hle : Ieee.Toward.even.cut neg (M * 2 ^ up) d ≤ 2 ^ 53 := by
    refine cut_le _ _ _ 53 ?_
    have : M * 2 ^ up < 2 ^ (L + 1 + up) := by rw [Nat.pow_add]; exact Nat.mul_lt_mul_of_pos_right l2 (Nat.two_pow_pos _)
    exact Nat.lt_of_lt_of_le this (Nat.pow_le_pow_right (by decide) (by omega))
  have hge : last ≠ -1074 → 2 ^ 52 ≤ Ieee.Toward.even.cut neg (M * 2 ^ up) d := by
    intro hne
    refine cut_ge _ _ _ 52 ?_
    have : 2 ^ (L + up) ≤ M * 2 ^ up := by rw [Nat.pow_add]; exact Nat.mul_le_mul_right _ l1
    exact Nat.le_trans (Nat.pow_le_pow_right (by decide) (by omega)) this
  have hnear := cut_near neg (M * 2 ^ up) d
  have hexact : d = 0 → Ieee.Toward.even.cut neg (M * 2 ^ up) d = M * 2 ^ up := fun e => by rw [e, cut_zero]
  generalize Ieee.Toward.even.cut neg (M * 2 ^ up) d = K at *
  obtain ⟨e, he⟩ : ∃ e, e = (last - -1074).toNat := ⟨_, rfl⟩
  rw [← he]
  have hrung : e * 2 ^ 52 + K < 2047 * 2 ^ 52 := by omega
  rw [Nat.min_eq_left (Nat.le_of_lt hrung)]
  obtain ⟨m, c, hr, hm⟩ := readD_word neg K e hrung (by
    by_cases h : last = -1074
    · exact .inl ⟨by omega, hle⟩
    · exact .inr ⟨hge h, hle⟩)
  refine ⟨RV neg m ((c : Int) - 1074), ⟨neg, m, _, hr, by omega, rfl⟩, ?_⟩
  have hv : RV neg m ((c : Int) - 1074) = sgR neg * (K : Rat) * p2 last := by
    have e1 : (m : Rat) * p2 (c : Int) = (K : Rat) * p2 (e : Int) := by
      rw [p2_nat, p2_nat]
      exact_mod_cast congrArg (fun n : Nat => (n : Rat)) hm
    have e2 : last = (e : Int) + -1074 := by omega
    unfold RV
    rw [e2, Int.sub_eq_add_neg, p2_add, p2_add]
    grind
  rw [hv]
  by_cases hc : last ≤ p
  · have hd0 : d = 0 := by omega
    have hK := hexact hd0
    have e1 : RV neg M p = sgR neg * (K : Rat) * p2 last := by
      unfold RV
      have e2 : p = (up : Int) + last := by omega
      rw [hK, e2, p2_add, p2_nat, Rat.natCast_mul]
      grind
    rw [e1]
    have := p2_pos (B - 53)
    constructor <;> grind
  · have hu0 : up = 0 := by omega
    rw [hu0, Nat.pow_zero, Nat.mul_one] at hnear
    have e1 : p2 last = ((2 ^ d : Nat) : Rat) * p2 p := by
      have : last = (d : Int) + p := by omega
      rw [this, p2_add, p2_nat]
    have hp := p2_pos p
    have n1 : 2 * ((K : Rat) * ((2 ^ d : Nat) : Rat)) ≤ 2 * (M : Rat) + ((2 ^ d : Nat) : Rat) := by exact_mod_cast natCast_mono hnear.1
    have n2 : 2 * (M : Rat) ≤ 2 * ((K : Rat) * ((2 ^ d : Nat) : Rat)) + ((2 ^ d : Nat) : Rat) := by exact_mod_cast natCast_mono hnear.2
    have m1 := mul_mono n1 (Rat.le_of_lt hp)
    have m2 := mul_mono n2 (Rat.le_of_lt hp)
    have hle2 : p2 last ≤ 2 * p2 (B - 53) := by
      rw [← p2_succ]
      exact p2_le (by omega)
    unfold RV
    rw [e1] at *
    generalize ((2 ^ d : Nat) : Rat) = g at *
    generalize (K : Rat) = k at *
    generalize (M : Rat) = mm at *
    generalize p2 (B - 53) = ε at *
    generalize p2 p = t at *
    cases neg
    · have : sgR false = 1 := rfl
      rw [this]
      constructor <;> grind
    · have : sgR true = -1 := rfl
      rw [this]
      constructor <;> grind

theorem RV_zero (s : Bool) (e : Int) : RV s 0 e = 0 := by unfold RV; grind
theorem RV_abs (s : Bool) (m : Nat) (e : Int) {b : Rat} (h1 : RV s m e < b) (h2 : -b < RV s m e) : (m : Rat) * p2 e < b := by
  unfold RV at h1 h2
  cases s
  · have : sgR false = 1 := rfl
    rw [this] at h1; grind
  · have : sgR true = -1 := rfl
    rw [this] at h2; grind

/-- What is near to a number below a power of two. -/
theorem near_val (neg : Bool) (M : Nat) (p : Int) (B : Int) (h1 : -1022 ≤ B) (h2 : B ≤ 1022) (hlt : RV neg M p < p2 (B + 1)) (hgt : -p2 (B + 1) < RV neg M p) :
    ∃ r, IsR (Ieee.double.nearest neg M p) r ∧ Near r (RV neg M p) (p2 (B - 53)) := by
  by_cases h0 : M = 0
  · subst h0
    refine ⟨0, ?_, ?_⟩
    · unfold Ieee.Format.nearest
      rw [if_pos rfl]
      exact IsR_zero_word neg
    · rw [RV_zero]
      have := p2_pos (B - 53)
      constructor <;> grind
  · refine near_err neg M p B h0 ?_ h1 h2
    have hm := RV_abs neg M p hlt hgt
    have l1 : ((2 ^ M.log2 : Nat) : Rat) ≤ (M : Rat) := natCast_mono (Nat.log2_self_le h0)
    have l2 := mul_mono l1 (Rat.le_of_lt (p2_pos p))
    have : p2 ((M.log2 : Int) + p) < p2 (B + 1) := by
      rw [p2_add, p2_nat]
      grind
    have := p2_lt_imp this
    omega

/-! ## Operations -/

theorem sgR_xor (s t : Bool) : sgR (s ^^ t) = sgR s * sgR t := by cases s <;> cases t <;> decide +kernel
theorem sgR_not (s : Bool) : sgR (!s) = -sgR s := by cases s <;> decide +kernel

theorem mulR {a b : Nat} {x y : Rat} (ha : IsR a x) (hb : IsR b y) (B : Int) (h1 : -1022 ≤ B) (h2 : B ≤ 1022) (hlt : x * y < p2 (B + 1)) (hgt : -p2 (B + 1) < x * y) :
    ∃ r, IsR (farith .mul .f64 a b) r ∧ Near r (x * y) (p2 (B - 53)) := by
  obtain ⟨s, m, e, hr, he, rfl⟩ := ha
  obtain ⟨t, n, f, hr', hf, rfl⟩ := hb
  have e1 : farith .mul .f64 a b = (((Ieee.double.read a).product (Ieee.double.read b)).map Ieee.double.write).getD (qn .f64) := rfl
  have e2 : RV s m e * RV t n f = RV (s ^^ t) (m * n) (e + f) := by
    unfold RV
    rw [sgR_xor, p2_add, Rat.natCast_mul]
    grind
  rw [e1, hr, hr']
  rw [e2] at hlt hgt ⊢
  exact near_val (s ^^ t) (m * n) (e + f) B h1 h2 hlt hgt

theorem signed_R (s : Bool) (m : Nat) (e base : Int) (h : base ≤ e) : ((Ieee.signed s m (e - base).toNat : Int) : Rat) * p2 base = RV s m e := by
  unfold Ieee.signed RV
  have e1 : e = ((e - base).toNat : Int) + base := by omega
  rw [Nat.shiftLeft_eq]
  have e2 : p2 e = ((2 ^ (e - base).toNat : Nat) : Rat) * p2 base := by
    have := p2_add ((e - base).toNat : Int) base
    rw [← e1, p2_nat] at this
    exact this
  rw [e2]
  cases s
  · have : sgR false = 1 := rfl
    rw [this, if_neg (by decide), Rat.intCast_natCast, Rat.natCast_mul]
    grind
  · have : sgR true = -1 := rfl
    rw [this, if_pos rfl, Rat.intCast_neg, Rat.intCast_natCast, Rat.natCast_mul]
    grind

theorem sumR (s t : Bool) (m n : Nat) (e f : Int) (B : Int) (h1 : -1022 ≤ B) (h2 : B ≤ 1022) (hlt : RV s m e + RV t n f < p2 (B + 1)) (hgt : -p2 (B + 1) < RV s m e + RV t n f) :
    ∃ w r, (Ieee.Datum.sum (.number s m e) (.number t n f)).map Ieee.double.write = some w ∧ IsR w r ∧ Near r (RV s m e + RV t n f) (p2 (B - 53)) := by
  unfold Ieee.Datum.sum
  dsimp only
  have hs := signed_R s m e (min e f) (by omega)
  have ht := signed_R t n f (min e f) (by omega)
  generalize hT : Ieee.signed s m (e - min e f).toNat + Ieee.signed t n (f - min e f).toNat = T
  have hT2 : ((T : Int) : Rat) * p2 (min e f) = RV s m e + RV t n f := by
    rw [← hT, Rat.intCast_add, ← hs, ← ht]
    grind
  have hV : RV (if T = 0 then s && t else decide (T < 0)) T.natAbs (min e f) = RV s m e + RV t n f := by
    rw [← hT2]
    unfold RV
    by_cases c0 : T = 0
    · subst c0
      simp [Rat.mul_zero, Rat.zero_mul]
    · rw [if_neg c0]
      by_cases c1 : T < 0
      · have e1 : ((T : Int) : Rat) = -((T.natAbs : Nat) : Rat) := by
          rw [← Rat.intCast_natCast, ← Rat.intCast_neg]
          congr 1
          omega
        rw [e1]
        simp only [c1, decide_true]
        have : sgR true = -1 := rfl
        rw [this]
        grind
      · have e1 : ((T : Int) : Rat) = ((T.natAbs : Nat) : Rat) := by
          rw [← Rat.intCast_natCast]
          congr 1
          omega
        rw [e1]
        simp only [c1, decide_false]
        have : sgR false = 1 := rfl
        rw [this]
        grind
  rw [← hV] at hlt hgt
  obtain ⟨r, h3, h4⟩ := near_val _ _ _ B h1 h2 hlt hgt
  rw [hV] at h4
  exact ⟨_, r, rfl, h3, h4⟩

theorem addR {a b : Nat} {x y : Rat} (ha : IsR a x) (hb : IsR b y) (B : Int) (h1 : -1022 ≤ B) (h2 : B ≤ 1022) (hlt : x + y < p2 (B + 1)) (hgt : -p2 (B + 1) < x + y) :
    ∃ r, IsR (farith .add .f64 a b) r ∧ Near r (x + y) (p2 (B - 53)) := by
  obtain ⟨s, m, e, hr, he, rfl⟩ := ha
  obtain ⟨t, n, f, hr', hf, rfl⟩ := hb
  obtain ⟨w, r, h3, h4, h5⟩ := sumR s t m n e f B h1 h2 hlt hgt
  have e1 : farith .add .f64 a b = (((Ieee.double.read a).sum (Ieee.double.read b)).map Ieee.double.write).getD (qn .f64) := rfl
  rw [e1, hr, hr', h3]
  exact ⟨r, h4, h5⟩
theorem RV_neg (s : Bool) (m : Nat) (e : Int) : RV (!s) m e = -RV s m e := by
  unfold RV
  rw [sgR_not]
  grind
theorem subR {a b : Nat} {x y : Rat} (ha : IsR a x) (hb : IsR b y) (B : Int) (h1 : -1022 ≤ B) (h2 : B ≤ 1022) (hlt : x - y < p2 (B + 1)) (hgt : -p2 (B + 1) < x - y) :
    ∃ r, IsR (farith .sub .f64 a b) r ∧ Near r (x - y) (p2 (B - 53)) := by
  obtain ⟨s, m, e, hr, he, rfl⟩ := ha
  obtain ⟨t, n, f, hr', hf, rfl⟩ := hb
  have e2 : RV s m e - RV t n f = RV s m e + RV (!t) n f := by rw [RV_neg]; grind
  rw [e2] at hlt hgt ⊢
  obtain ⟨w, r, h3, h4, h5⟩ := sumR s (!t) m n e f B h1 h2 hlt hgt
  have e1 : farith .sub .f64 a b = (((Ieee.double.read a).sum (Ieee.double.read b).opposite).map Ieee.double.write).getD (qn .f64) := rfl
  rw [e1, hr, hr']
  show ∃ r, IsR ((((Ieee.Datum.number s m e).sum (Ieee.Datum.number (!t) n f)).map Ieee.double.write).getD (qn .f64)) r ∧ _
  rw [h3]
  exact ⟨r, h4, h5⟩

/-! ## Order -/

theorem IsR_isD {w : Nat} {q : Rat} (h : IsR w q) : ∃ v : Int, isD w v ∧ q = (v : Rat) * p2 (-1074) := by
  obtain ⟨s, m, e, hr, he, rfl⟩ := h
  obtain ⟨c, hc⟩ : ∃ c : Nat, e = (c : Int) - 1074 := ⟨(e + 1074).toNat, by omega⟩
  subst hc
  refine ⟨VU s m c, ⟨s, m, c, hr, rfl⟩, ?_⟩
  unfold RV VU
  rw [Int.sub_eq_add_neg, p2_add, p2_nat]
  cases s
  · have : sgR false = 1 := rfl
    rw [this, if_neg (by decide), Rat.intCast_natCast, Rat.natCast_mul]
    grind
  · have : sgR true = -1 := rfl
    rw [this, if_pos rfl, Rat.intCast_neg, Rat.intCast_natCast, Rat.natCast_mul]
    grind

theorem mulp_lt {v w : Int} : (v : Rat) * p2 (-1074) < (w : Rat) * p2 (-1074) ↔ v < w := by
  have hp := p2_pos (-1074)
  constructor
  · intro h
    apply Classical.byContradiction
    intro hn
    have : (w : Rat) ≤ (v : Rat) := Rat.intCast_le_intCast.2 (by omega)
    have := mul_mono this (Rat.le_of_lt hp)
    grind
  · intro h
    have : (v : Rat) < (w : Rat) := Rat.intCast_lt_intCast.2 h
    exact Rat.mul_lt_mul_of_pos_right this hp

theorem ordR {a b : Nat} {x y : Rat} (ha : IsR a x) (hb : IsR b y) : FloatKind.f64.format.order a b = some (if x < y then .lt else if y < x then .gt else .eq) := by
  obtain ⟨v, h1, rfl⟩ := IsR_isD ha
  obtain ⟨w, h2, rfl⟩ := IsR_isD hb
  rw [ordD h1 h2]
  simp only [mulp_lt]
  congr 1
  rw [Int.compare_eq_ite_lt]

theorem fltR {a b : Nat} {x y : Rat} (ha : IsR a x) (hb : IsR b y) : flt .f64 a b = decide (x < y) := by
  unfold flt
  rw [ordR ha hb]
  by_cases h : x < y
  · simp [h]
  · by_cases h2 : y < x <;> simp [h, h2]
theorem fgtR {a b : Nat} {x y : Rat} (ha : IsR a x) (hb : IsR b y) : fgt .f64 a b = decide (y < x) := by
  unfold fgt
  rw [ordR ha hb]
  by_cases h : x < y
  · have : ¬ y < x := by grind
    simp [h, this]
  · by_cases h2 : y < x <;> simp [h, h2]
theorem feqR {a b : Nat} {x y : Rat} (ha : IsR a x) (hb : IsR b y) : feq .f64 a b = decide (x = y) := by
  unfold feq
  rw [ordR ha hb]
  by_cases h : x < y
  · have : ¬ x = y := by grind
    simp [h, this]
  · by_cases h2 : y < x
    · have : ¬ x = y := by grind
      simp [h, h2, this]
    · have : x = y := by grind
      simp [this]

end Go.Proofs.Ytmmdjajebmihhaa.AM

/- Plainly: quotients of doubles; the root of a number below a quarter is below one. Conditions: those that each lemma names. -/
namespace Go.Proofs.Ytmmdjajebmihhaa.AM
open Go Go.Proofs
set_option linter.unusedVariables false
set_option exponentiation.threshold 2000

theorem quot_near (m n : Nat) (hn : 0 < n) (more : Nat) : ∀ Q, Q = 2 * (m <<< more / n) + (m <<< more % n != 0).toNat → Q * n ≤ 2 * (m * 2 ^ more) + n ∧ 2 * (m * 2 ^ more) ≤ Q * n + n := by
  intro Q hQ
  rw [Nat.shiftLeft_eq] at hQ
  have h1 := Nat.div_add_mod (m * 2 ^ more) n
  have h2 := Nat.mod_lt (m * 2 ^ more) hn
  generalize m * 2 ^ more = x at *
  have h3 : 2 * (x / n) * n = 2 * (n * (x / n)) := by rw [Nat.mul_assoc, Nat.mul_comm (x / n)]
  subst hQ
  rw [Nat.add_mul, h3]
  generalize n * (x / n) = y at *
  by_cases c : x % n = 0
  · rw [c]
    simp only [bne_self_eq_false, Bool.toNat_false, Nat.zero_mul]
    omega
  · have : (x % n != 0) = true := by simpa using c
    rw [this]
    simp only [Bool.toNat_true, Nat.one_mul]
    omega

theorem quo_place (m n : Nat) (hm : m ≠ 0) (hn : 0 < n) : 2 ^ 54 * n ≤ m * 2 ^ (54 + n.log2 - m.log2) * 2 := by
  have l1 : 2 ^ m.log2 ≤ m := Nat.log2_self_le hm
  have l2 : n < 2 ^ (n.log2 + 1) := Nat.lt_log2_self
  have h1 : 2 ^ (54 + n.log2) ≤ m * 2 ^ (54 + n.log2 - m.log2) := by
    have : 2 ^ m.log2 * 2 ^ (54 + n.log2 - m.log2) ≤ m * 2 ^ (54 + n.log2 - m.log2) := Nat.mul_le_mul_right _ l1
    rw [← Nat.pow_add] at this
    exact Nat.le_trans (Nat.pow_le_pow_right (by decide) (by omega)) this
  have h2 : 2 ^ 54 * n ≤ 2 ^ 54 * 2 ^ (n.log2 + 1) := Nat.mul_le_mul_left _ (Nat.le_of_lt l2)
  rw [← Nat.pow_add] at h2
  have h3 : 2 ^ (54 + (n.log2 + 1)) = 2 ^ (54 + n.log2) * 2 := by rw [← Nat.pow_succ]; congr 1
  omega

theorem quoR {a b : Nat} {x y q : Rat} (ha : IsR a x) (hb : IsR b y) (hy : y ≠ 0) (hq : q * y = x) (B : Int) (h1 : -1022 ≤ B) (h2 : B ≤ 1022) (hle : q ≤ p2 B) (hge : -p2 B ≤ q) :
    ∃ r, IsR (farith .quo .f64 a b) r ∧ Near r q (p2 (B - 52)) := by
  obtain ⟨s, m, e, hr, he, rfl⟩ := ha
  obtain ⟨t, n, f, hr', hf, rfl⟩ := hb
  have e1 : farith .quo .f64 a b = (((Ieee.double.read a).quotient 54 (Ieee.double.read b)).map Ieee.double.write).getD (qn .f64) := rfl
  have hn0 : n ≠ 0 := fun h => hy (by rw [h, RV_zero])
  have hn : 0 < n := Nat.pos_of_ne_zero hn0
  rw [e1, hr, hr']
  unfold Ieee.Datum.quotient
  dsimp only
  rw [if_neg hn0]
  show ∃ r, IsR (Ieee.double.nearest (s ^^ t) (2 * (m <<< (54 + n.log2 - m.log2) / n) + (m <<< (54 + n.log2 - m.log2) % n != 0).toNat) (e - f - ((54 + n.log2 - m.log2 : Nat) : Int) - 1)) r ∧ _
  have hN := quot_near m n hn (54 + n.log2 - m.log2) _ rfl
  have hzero : m = 0 → 2 * (m <<< (54 + n.log2 - m.log2) / n) + (m <<< (54 + n.log2 - m.log2) % n != 0).toNat = 0 := by
    intro h
    subst h
    simp [Nat.shiftLeft_eq]
  have hplace : m ≠ 0 → _ := fun h => quo_place m n h hn
  generalize hQ : 2 * (m <<< (54 + n.log2 - m.log2) / n) + (m <<< (54 + n.log2 - m.log2) % n != 0).toNat = Q at *
  generalize hM : 54 + n.log2 - m.log2 = more at *
  obtain ⟨pl, hpl⟩ : ∃ pl : Int, pl = e - f - (more : Int) - 1 := ⟨_, rfl⟩
  rw [← hpl]
  -- the true quotient
  have hnR : (0 : Rat) < (n : Rat) := by
    have : (0 : Rat) < ((n : Nat) : Rat) := by exact_mod_cast Rat.natCast_lt_natCast.2 hn
    exact this
  have hqv : q * (n : Rat) = sgR (s ^^ t) * (2 * ((m : Rat) * ((2 ^ more : Nat) : Rat))) * p2 pl := by
    have e2 : e = f + (more : Int) + 1 + pl := by omega
    have hx : RV s m e = sgR s * (2 * ((m : Rat) * ((2 ^ more : Nat) : Rat))) * p2 pl * p2 f := by
      unfold RV
      rw [e2, p2_add, p2_succ, p2_add, p2_nat]
      grind
    have hf := p2_pos f
    have hy2 : RV t n f = sgR t * (n : Rat) * p2 f := rfl
    rw [hx, hy2] at hq
    have hs : sgR t * sgR t = 1 := by cases t <;> decide +kernel
    have h3 : (q * (n : Rat) - sgR (s ^^ t) * (2 * ((m : Rat) * ((2 ^ more : Nat) : Rat))) * p2 pl) * p2 f = 0 := by
      rw [sgR_xor]
      have : q * (sgR t * (n : Rat) * p2 f) * sgR t = sgR s * (2 * ((m : Rat) * ((2 ^ more : Nat) : Rat))) * p2 pl * p2 f * sgR t := by rw [hq]
      grind
    rcases Rat.mul_eq_zero.1 h3 with h4 | h4
    · grind
    · grind
  have hp := p2_pos pl
  -- what is written lies near it
  have n1 : (Q : Rat) * (n : Rat) ≤ 2 * ((m : Rat) * ((2 ^ more : Nat) : Rat)) + (n : Rat) := by exact_mod_cast natCast_mono hN.1
  have n2 : 2 * ((m : Rat) * ((2 ^ more : Nat) : Rat)) ≤ (Q : Rat) * (n : Rat) + (n : Rat) := by exact_mod_cast natCast_mono hN.2
  have m1 := mul_mono n1 (Rat.le_of_lt hp)
  have m2 := mul_mono n2 (Rat.le_of_lt hp)
  have hnear : Near (RV (s ^^ t) Q pl) q (p2 pl) := by
    unfold RV
    have g1 : (sgR (s ^^ t) * (Q : Rat) * p2 pl - q - p2 pl) * (n : Rat) ≤ 0 := by
      have : sgR (s ^^ t) * (Q : Rat) * p2 pl * (n : Rat) - q * (n : Rat) - p2 pl * (n : Rat) ≤ 0 := by
        rw [hqv]
        cases (s ^^ t)
        · have : sgR false = 1 := rfl
          rw [this]; grind
        · have : sgR true = -1 := rfl
          rw [this]; grind
      grind
    have g2 : (q - sgR (s ^^ t) * (Q : Rat) * p2 pl - p2 pl) * (n : Rat) ≤ 0 := by
      have : q * (n : Rat) - sgR (s ^^ t) * (Q : Rat) * p2 pl * (n : Rat) - p2 pl * (n : Rat) ≤ 0 := by
        rw [hqv]
        cases (s ^^ t)
        · have : sgR false = 1 := rfl
          rw [this]; grind
        · have : sgR true = -1 := rfl
          rw [this]; grind
      grind
    have neg_of : ∀ z : Rat, z * (n : Rat) ≤ 0 → z ≤ 0 := by
      intro z hz
      apply Classical.byContradiction
      intro hc
      have := Rat.mul_pos (show 0 < z by grind) hnR
      grind
    have k1 := neg_of _ g1
    have k2 := neg_of _ g2
    constructor <;> grind
  by_cases hm0 : m = 0
  · have hq0 := hzero hm0
    subst hm0
    rw [hq0] at hnear ⊢
    have hqz : q = 0 := by
      have : q * (n : Rat) = 0 := by
        rw [hqv]
        have : ((0 : Nat) : Rat) = 0 := by simp
        rw [this]
        grind
      rcases Rat.mul_eq_zero.1 this with h | h
      · exact h
      · grind
    obtain ⟨r, h3, h4⟩ := near_val (s ^^ t) 0 pl B h1 h2 (by rw [RV_zero]; exact p2_pos _) (by rw [RV_zero]; have := p2_pos (B + 1); grind)
    rw [RV_zero] at h4
    have hle2 : p2 (B - 53) ≤ p2 (B - 52) := p2_le (by omega)
    refine ⟨r, h3, ?_⟩
    rw [hqz]
    exact ⟨by have := h4.1; grind, by have := h4.2; grind⟩
  · have hpp := hplace hm0
    -- the place is small
    have h54 : p2 (54 + pl) ≤ p2 B := by
      have e3 : p2 (54 + pl) = ((2 ^ 54 : Nat) : Rat) * p2 pl := by rw [p2_add, show (54 : Int) = ((54 : Nat) : Int) from rfl, p2_nat]
      have n3 : ((2 ^ 54 : Nat) : Rat) * (n : Rat) ≤ (m : Rat) * ((2 ^ more : Nat) : Rat) * 2 := by exact_mod_cast natCast_mono hpp
      have m3 := mul_mono n3 (Rat.le_of_lt hp)
      have h5 : (p2 (54 + pl) - p2 B) * (n : Rat) ≤ 0 := by
        have hle' := mul_mono hle (Rat.le_of_lt hnR)
        have hge' := mul_mono hge (Rat.le_of_lt hnR)
        rw [hqv] at hle' hge'
        rw [e3]
        generalize (s ^^ t) = u at *
        cases u
        · have : sgR false = 1 := rfl
          rw [this] at hle'; grind
        · have : sgR true = -1 := rfl
          rw [this] at hge'; grind
      apply Classical.byContradiction
      intro hc
      have := Rat.mul_pos (show 0 < p2 (54 + pl) - p2 B by grind) hnR
      grind
    have hplB : 54 + pl ≤ B := by
      apply Classical.byContradiction
      intro hc
      have h6 := p2_le (show B + 1 ≤ 54 + pl by omega)
      have h7 := p2_succ B
      have := p2_pos B
      grind
    have hsm : p2 pl ≤ p2 (B - 54) := p2_le (by omega)
    have e5 : p2 (B - 53) = 2 * p2 (B - 54) := by rw [← p2_succ]; congr 1; omega
    have e6 : p2 (B - 52) = 2 * p2 (B - 53) := by rw [← p2_succ]; congr 1; omega
    have e7 : p2 (B + 1) = 2 * p2 B := p2_succ B
    have hB0 : p2 (B - 54) < p2 B := by
      have h8 : p2 (B - 54 + 1) ≤ p2 B := p2_le (by omega)
      rw [p2_succ] at h8
      have := p2_pos (B - 54)
      grind
    obtain ⟨r, h3, h4⟩ := near_val (s ^^ t) Q pl B h1 h2 (by have := hnear.1; grind) (by have := hnear.2; grind)
    refine ⟨r, h3, ?_⟩
    have := p2_pos (B - 54)
    exact ⟨by have := h4.1; have := hnear.1; grind, by have := h4.2; have := hnear.2; grind⟩

end Go.Proofs.Ytmmdjajebmihhaa.AM
