/- What functions whose answers are open make of their arguments; each is what its evaluation says. Printed by fn.py. -/
import Derived.Test.YtbgkhcoeifbgkaaU2
import Derived.Test.YtbgkhcoeifbgkaaN3
namespace Go.Proofs.Ytbgkhcoeifbgkaa.AM
open Go Go.Proofs
set_option linter.unusedVariables false
set_option maxRecDepth 100000
set_option maxHeartbeats 0

/- "loop.example/g03321/spec.l03Single" -/
noncomputable def N69 : NEnv := mkN [] []
noncomputable def rN69 (k74 : I74.den → Bool) (g74 : I74.den → O74.den) (h : O69.den → Option Unit) (x : I69.den) : Option Unit :=
  let v0 := (k74 (((), x.fst.snd), x.snd))
  bif (v0) then
    let v1 := (g74 (((), x.fst.snd), x.snd))
    bif (narrowOk v1.fst.fst) then
      bif ((convF FloatKind.f64 FloatKind.f32 v1.fst.fst).1) then
        h ((((convF FloatKind.f64 FloatKind.f32 v1.fst.fst).2), ()), (((v1.snd.fst.1), ((v1.snd.fst.snd.1), ((v1.snd.fst.snd.snd.1), ()))), ()))
      else
        none
    else
      allK fun (z6 : Bits32) =>
        h (((z6.1), ()), (((v1.snd.fst.1), ((v1.snd.fst.snd.1), ((v1.snd.fst.snd.snd.1), ()))), ()))
  else
    none
theorem evN69 (k74 : I74.den → Bool) (g74 : I74.den → O74.den) (h : O69.den → Option Unit) (x : I69.den) : callSN (Γ69 k74 g74) (N69) (bodyOf Try.f69) I69 O69 h x = rN69 k74 g74 h x := by kernel_rfl

/- "loop.example/g03321/spec.l11Sails" -/
noncomputable def N59 (p69 : I69.den → Bool) (Q69 : I69.den → O69.den → Prop) (e69 : Nonempty (Ch I69 O69 p69 Q69)) : NEnv := mkN [(69, sgFam true I69 O69 p69 Q69 e69)] []
noncomputable def rN59 (k67 : I67.den → Bool) (g67 : I67.den → O67.den) (k65 : I65.den → Bool) (g65 : I65.den → O65.den) (k68 : I68.den → Bool) (g68 : I68.den → O68.den) (k69 : I69.den → Bool) (g69 : I69.den → O69.den) (k70 : I70.den → Bool) (g70 : I70.den → O70.den) (kl4 : V59_4 → Bool) (xl4 : V59_4 → X59_4) (kl29 : V59_29 → Bool) (xl29 : V59_29 → X59_29) (p69 : I69.den → Bool) (Q69 : I69.den → O69.den → Prop) (e69 : Nonempty (Ch I69 O69 p69 Q69)) (h : O59.den → Option Unit) (x : I59.den) : Option Unit :=
  let v0 := (k67 (((), 5, ()), x.snd))
  bif (v0) then
    let v1 := (g67 (((), 5, ()), x.snd))
    let v2 := (IntKind.wrap IntKind.i64 (1 + v1.fst.fst))
    let v3 := (List.set (List.replicate 6 (zero Ty.str)) 0 { data := #[109, 97, 105, 110] })
    let v4 := (List.set v3 1 { data := #[106, 105, 98] })
    let v5 := (List.set v4 2 { data := #[103, 101, 110, 111, 97] })
    let v6 := (List.set v5 3 { data := #[115, 116, 111, 114, 109] })
    let v7 := (List.set v6 4 { data := #[99, 111, 100, 101] })
    let v8 := (List.set v7 5 { data := #[107, 105, 116, 101] })
    let v9 := (kl4 (((), (), (), v2, ()), v1.snd.fst, v8, List.replicate 0 (zero S23), ()))
    bif (v9) then
      let v10 := (xl4 (((), (), (), v2, ()), v1.snd.fst, v8, List.replicate 0 (zero S23), ()))
      let v11 := (k67 (((), (↑(List.length v10.snd.snd.fst) : Int), ()), v10.snd.fst, ()))
      bif (v11) then
        let v12 := (g67 (((), (↑(List.length v10.snd.snd.fst) : Int), ()), v10.snd.fst, ()))
        let v13 := (k67 (((), 24, ()), v12.snd))
        bif (v13) then
          let v14 := (g67 (((), 24, ()), v12.snd))
          bif (v14.fst.fst == 0) then
            bif (decide (0 ≤ 0) && decide (0 < (↑(List.length v10.snd.snd.fst) : Int))) then
              let v15 := (List.set (List.replicate 5 (zero Ty.str)) 0 { data := #[] })
              let v16 := (List.set v15 1 { data := #[74, 105, 98] })
              let v17 := (List.set v16 2 { data := #[97, 98, 99, 100, 101, 102, 103, 104, 105, 106, 107, 108, 109, 110, 111, 112, 113] })
              let v18 := (List.set v17 3 { data := #[97, 98, 99, 100, 101, 102, 103, 104, 105, 106, 107, 108, 109, 110, 111, 112] })
              let v19 := (List.getD v10.snd.snd.fst (Int.toNat 0) (zero S23))
              let v20 := (List.set v18 4 v19.fst)
              let v21 := (k68 (((), (), ()), v14.snd.fst, v20, ()))
              bif (v21) then
                bif (decide (0 ≤ v12.fst.fst) && decide (v12.fst.fst < (↑(List.length v10.snd.snd.fst) : Int))) then
                  let v22 := (g68 (((), (), ()), v14.snd.fst, v20, ()))
                  let v23 := (List.getD v10.snd.snd.fst (Int.toNat v12.fst.fst) (zero S23))
                  let v24 := (List.set v10.snd.snd.fst (Int.toNat v12.fst.fst) (v22.fst.fst, v23.snd))
                  h (((), ()), (((v22.snd.fst.1), ((v22.snd.fst.snd.1), ((v22.snd.fst.snd.snd.1), ()))), ((v24), ())))
                else
                  none
              else
                none
            else
              none
          else
            bif (v14.fst.fst == 1) then
              allK fun (c69_14 : Ch I69 O69 p69 Q69) =>
                let v15 := (p69 (((), 300, ()), v14.snd))
                bif (v15) then
                  bif (decide (0 ≤ v12.fst.fst) && decide (v12.fst.fst < (↑(List.length v10.snd.snd.fst) : Int))) then
                    let v16 := (c69_14.val (((), 300, ()), v14.snd))
                    let v17 := (List.getD v10.snd.snd.fst (Int.toNat v12.fst.fst) (zero S23))
                    let v18 := (List.set v10.snd.snd.fst (Int.toNat v12.fst.fst) (v17.fst, v16.fst.fst, v17.snd.snd))
                    h (((), ()), (((v16.snd.fst.1), ((v16.snd.fst.snd.1), ((v16.snd.fst.snd.snd.1), ()))), ((v18), ())))
                  else
                    none
                else
                  none
            else
              bif (v14.fst.fst == 2) then
                allK fun (c69_16 : Ch I69 O69 p69 Q69) =>
                  let v15 := (p69 (((), 300, ()), v14.snd))
                  bif (v15) then
                    bif (decide (0 ≤ v12.fst.fst) && decide (v12.fst.fst < (↑(List.length v10.snd.snd.fst) : Int))) then
                      let v16 := (c69_16.val (((), 300, ()), v14.snd))
                      let v17 := (List.getD v10.snd.snd.fst (Int.toNat v12.fst.fst) (zero S23))
                      let v18 := (List.set v10.snd.snd.fst (Int.toNat v12.fst.fst) (v17.fst, v17.snd.fst, v16.fst.fst, v17.snd.snd.snd))
                      h (((), ()), (((v16.snd.fst.1), ((v16.snd.fst.snd.1), ((v16.snd.fst.snd.snd.1), ()))), ((v18), ())))
                    else
                      none
                  else
                    none
              else
                bif (v14.fst.fst == 3) then
                  let v15 := (k70 (((), ()), v14.snd))
                  bif (v15) then
                    bif (decide (0 ≤ v12.fst.fst) && decide (v12.fst.fst < (↑(List.length v10.snd.snd.fst) : Int))) then
                      let v16 := (g70 (((), ()), v14.snd))
                      let v17 := (List.getD v10.snd.snd.fst (Int.toNat v12.fst.fst) (zero S23))
                      let v18 := (IntKind.wrap IntKind.i64 (v16.fst.fst - 2))
                      let v19 := (List.set v10.snd.snd.fst (Int.toNat v12.fst.fst) (v17.fst, v17.snd.fst, v17.snd.snd.fst, v17.snd.snd.snd.fst, v18, ()))
                      h (((), ()), (((v16.snd.fst.1), ((v16.snd.fst.snd.1), ((v16.snd.fst.snd.snd.1), ()))), ((v19), ())))
                    else
                      none
                  else
                    none
                else
                  bif (v14.fst.fst == 4) then
                    let v15 := (k70 (((), ()), v14.snd))
                    bif (v15) then
                      bif (decide (0 ≤ v12.fst.fst) && decide (v12.fst.fst < (↑(List.length v10.snd.snd.fst) : Int))) then
                        let v16 := (g70 (((), ()), v14.snd))
                        let v17 := (List.getD v10.snd.snd.fst (Int.toNat v12.fst.fst) (zero S23))
                        let v18 := (IntKind.wrap IntKind.i64 (v16.fst.fst - 2))
                        let v19 := (List.set v10.snd.snd.fst (Int.toNat v12.fst.fst) (v17.fst, v17.snd.fst, v17.snd.snd.fst, v18, v17.snd.snd.snd.snd))
                        h (((), ()), (((v16.snd.fst.1), ((v16.snd.fst.snd.1), ((v16.snd.fst.snd.snd.1), ()))), ((v19), ())))
                      else
                        none
                    else
                      none
                  else
                    bif (v14.fst.fst == 5) then
                      h (((), ()), (((v14.snd.fst.1), ((v14.snd.fst.snd.1), ((v14.snd.fst.snd.snd.1), ()))), ((List.replicate 0 (zero S23)), ())))
                    else
                      bif (v14.fst.fst == 6) then
                        let v15 := (kl29 (((), (), ()), v14.snd.fst, v10.snd.snd))
                        bif (v15) then
                          let v16 := (xl29 (((), (), ()), v14.snd.fst, v10.snd.snd))
                          h (((), ()), (((v16.snd.fst.1), ((v16.snd.fst.snd.1), ((v16.snd.fst.snd.snd.1), ()))), ((v16.snd.snd.1), ())))
                        else
                          none
                      else
                        h (((), ()), (((v14.snd.fst.1), ((v14.snd.fst.snd.1), ((v14.snd.fst.snd.snd.1), ()))), ((v10.snd.snd.1), ())))
        else
          none
      else
        none
    else
      none
  else
    none
theorem evN59 (k67 : I67.den → Bool) (g67 : I67.den → O67.den) (k65 : I65.den → Bool) (g65 : I65.den → O65.den) (k68 : I68.den → Bool) (g68 : I68.den → O68.den) (k69 : I69.den → Bool) (g69 : I69.den → O69.den) (k70 : I70.den → Bool) (g70 : I70.den → O70.den) (kl4 : V59_4 → Bool) (xl4 : V59_4 → X59_4) (kl29 : V59_29 → Bool) (xl29 : V59_29 → X59_29) (p69 : I69.den → Bool) (Q69 : I69.den → O69.den → Prop) (e69 : Nonempty (Ch I69 O69 p69 Q69)) (h : O59.den → Option Unit) (x : I59.den) : callSN (Γ59 k67 g67 k65 g65 k68 g68 k69 g69 k70 g70 kl4 xl4 kl29 xl29) (N59 p69 Q69 e69) (bodyOf Try.f59) I59 O59 h x = rN59 k67 g67 k65 g65 k68 g68 k69 g69 k70 g70 kl4 xl4 kl29 xl29 p69 Q69 e69 h x := by kernel_rfl

/- "loop.example/g03321/spec.l11Moment" -/
noncomputable def N60 (p69 : I69.den → Bool) (Q69 : I69.den → O69.den → Prop) (e69 : Nonempty (Ch I69 O69 p69 Q69)) : NEnv := mkN [(69, sgFam true I69 O69 p69 Q69 e69)] []
noncomputable def rN60 (k67 : I67.den → Bool) (g67 : I67.den → O67.den) (k69 : I69.den → Bool) (g69 : I69.den → O69.den) (k70 : I70.den → Bool) (g70 : I70.den → O70.den) (p69 : I69.den → Bool) (Q69 : I69.den → O69.den → Prop) (e69 : Nonempty (Ch I69 O69 p69 Q69)) (h : O60.den → Option Unit) (x : I60.den) : Option Unit :=
  let v0 := (k67 (((), 101, ()), x.snd))
  bif (v0) then
    let v1 := (g67 (((), 101, ()), x.snd))
    let v2 := (k67 (((), 181, ()), v1.snd))
    bif (v2) then
      let v3 := (g67 (((), 181, ()), v1.snd))
      let v4 := (k67 (((), 20, ()), v3.snd))
      bif (v4) then
        let v5 := (g67 (((), 20, ()), v3.snd))
        bif (v5.fst.fst == 0) then
          allK fun (c69_10 : Ch I69 O69 p69 Q69) =>
            let v6 := (p69 (((), 300, ()), v5.snd))
            bif (v6) then
              let v7 := (c69_10.val (((), 300, ()), v5.snd))
              h ((((v7.fst.1), ((v3.fst.1), ())), ()), (((v7.snd.fst.1), ((v7.snd.fst.snd.1), ((v7.snd.fst.snd.snd.1), ()))), ()))
            else
              none
        else
          bif (v5.fst.fst == 1) then
            let v6 := (k70 (((), ()), v5.snd))
            bif (v6) then
              let v7 := (farith BinOp.quo FloatKind.f32 (FloatKind.nearest FloatKind.f32 v1.fst.fst) 1082130432)
              let v8 := (g70 (((), ()), v5.snd))
              let v9 := (IntKind.wrap IntKind.i64 (v8.fst.fst - 3))
              h ((((v7), ((v9), ())), ()), (((v8.snd.fst.1), ((v8.snd.fst.snd.1), ((v8.snd.fst.snd.snd.1), ()))), ()))
            else
              none
          else
            let v6 := (farith BinOp.quo FloatKind.f32 (FloatKind.nearest FloatKind.f32 v1.fst.fst) 1082130432)
            h ((((v6), ((v3.fst.1), ())), ()), (((v5.snd.fst.1), ((v5.snd.fst.snd.1), ((v5.snd.fst.snd.snd.1), ()))), ()))
      else
        none
    else
      none
  else
    none
theorem evN60 (k67 : I67.den → Bool) (g67 : I67.den → O67.den) (k69 : I69.den → Bool) (g69 : I69.den → O69.den) (k70 : I70.den → Bool) (g70 : I70.den → O70.den) (p69 : I69.den → Bool) (Q69 : I69.den → O69.den → Prop) (e69 : Nonempty (Ch I69 O69 p69 Q69)) (h : O60.den → Option Unit) (x : I60.den) : callSN (Γ60 k67 g67 k69 g69 k70 g70) (N60 p69 Q69 e69) (bodyOf Try.f60) I60 O60 h x = rN60 k67 g67 k69 g69 k70 g70 p69 Q69 e69 h x := by kernel_rfl

/- "loop.example/g03321/spec.DrawBestSail" -/
noncomputable def N34 (p59 : I59.den → Bool) (Q59 : I59.den → O59.den → Prop) (e59 : Nonempty (Ch I59 O59 p59 Q59)) (p60 : I60.den → Bool) (Q60 : I60.den → O60.den → Prop) (e60 : Nonempty (Ch I60 O60 p60 Q60)) : NEnv := mkN [(59, sgFam true I59 O59 p59 Q59 e59), (60, sgFam true I60 O60 p60 Q60 e60)] []
noncomputable def rN34 (k58 : I58.den → Bool) (g58 : I58.den → O58.den) (k59 : I59.den → Bool) (g59 : I59.den → O59.den) (k60 : I60.den → Bool) (g60 : I60.den → O60.den) (p59 : I59.den → Bool) (Q59 : I59.den → O59.den → Prop) (e59 : Nonempty (Ch I59 O59 p59 Q59)) (p60 : I60.den → Bool) (Q60 : I60.den → O60.den → Prop) (e60 : Nonempty (Ch I60 O60 p60 Q60)) (h : O34.den → Option Unit) (x : I34.den) : Option Unit :=
  let v0 := (k58 x)
  bif (v0) then
    allK fun (c59_4 : Ch I59 O59 p59 Q59) =>
      let v1 := (g58 x)
      let v2 := (p59 (((), ()), v1.snd))
      bif (v2) then
        allK fun (c60_8 : Ch I60 O60 p60 Q60) =>
          let v3 := (c59_4.val (((), ()), v1.snd))
          let v4 := (p60 (((), ()), v3.snd.fst, ()))
          bif (v4) then
            let v5 := (c60_8.val (((), ()), v3.snd.fst, ()))
            h (((), (((v5.fst.fst.1), ((v5.fst.fst.snd.1), ())), ())), ((v3.snd.snd.1), ()))
          else
            none
      else
        none
  else
    none
theorem evN34 (k58 : I58.den → Bool) (g58 : I58.den → O58.den) (k59 : I59.den → Bool) (g59 : I59.den → O59.den) (k60 : I60.den → Bool) (g60 : I60.den → O60.den) (p59 : I59.den → Bool) (Q59 : I59.den → O59.den → Prop) (e59 : Nonempty (Ch I59 O59 p59 Q59)) (p60 : I60.den → Bool) (Q60 : I60.den → O60.den → Prop) (e60 : Nonempty (Ch I60 O60 p60 Q60)) (h : O34.den → Option Unit) (x : I34.den) : callSN (Γ34 k58 g58 k59 g59 k60 g60) (N34 p59 Q59 e59 p60 Q60 e60) (bodyOf Try.f34) I34 O34 h x = rN34 k58 g58 k59 g59 k60 g60 p59 Q59 e59 p60 Q60 e60 h x := by kernel_rfl

/- "loop.example/g03321/spec.l11Moments" -/
noncomputable def N63 (p60 : I60.den → Bool) (Q60 : I60.den → O60.den → Prop) (e60 : Nonempty (Ch I60 O60 p60 Q60)) (pL63_6 : V63_6 → Bool) (QL63_6 : V63_6 → X63_6 → Prop) (eL63_6 : Nonempty (ChL pL63_6 QL63_6)) : NEnv := mkN [(60, sgFam true I60 O60 p60 Q60 e60)] [(6, loopXN [0, 3, 4, 5] [] 0 [3] [] sh63_6 shX63_6 pL63_6 QL63_6 eL63_6)]
noncomputable def qN63_6 (k67 : I67.den → Bool) (g67 : I67.den → O67.den) (k65 : I65.den → Bool) (g65 : I65.den → O65.den) (k60 : I60.den → Bool) (g60 : I60.den → O60.den) (k72 : Den A72 → Bool) (g72 : Den A72 → Den R72) (kl6 : V63_6 → Bool) (xl6 : V63_6 → X63_6) (p60 : I60.den → Bool) (Q60 : I60.den → O60.den → Prop) (e60 : Nonempty (Ch I60 O60 p60 Q60)) (pL63_6 : V63_6 → Bool) (QL63_6 : V63_6 → X63_6 → Prop) (eL63_6 : Nonempty (ChL pL63_6 QL63_6)) (h : X63_6 → Option Unit) (f : V63_6 → Option Unit) (v : V63_6) : Option Unit :=
  bif (decide (v.fst.snd.snd.fst > 0)) then
    let v0 := (k67 (((), 17, ()), v.snd.fst, ()))
    bif (v0) then
      let v1 := (g67 (((), 17, ()), v.snd.fst, ()))
      let v2 := (k67 (((), 21, ()), v1.snd))
      bif (v2) then
        let v3 := (g67 (((), 21, ()), v1.snd))
        let v4 := (IntKind.wrap IntKind.i64 (v.snd.snd.snd.fst.snd.fst + v3.fst.fst))
        let v5 := (IntKind.wrap IntKind.i64 (v4 - 10))
        let v6 := (k72 (v5, 0, 180, ()))
        bif (v6) then
          let v7 := (k65 (((), 6, ()), v3.snd))
          bif (v7) then
            let v8 := (g65 (((), 6, ()), v3.snd))
            bif (v8.fst.1) then
              allK fun (c60_14 : Ch I60 O60 p60 Q60) =>
                let v9 := (p60 (((), ()), v8.snd))
                bif (v9) then
                  let v10 := (c60_14.val (((), ()), v8.snd))
                  let v11 := (List.set (List.replicate 1 (zero S25)) 0 v10.fst.fst)
                  bif (capOk (List.length v.snd.snd.fst + List.length v11)) then
                    let v12 := (IntKind.wrap IntKind.i64 (v.fst.snd.snd.fst - 1))
                    let v13 := (v.snd.snd.fst ++ v11)
                    f (((), ((), ((v12), ((), ())))), (((v10.snd.fst.1), ((v10.snd.fst.snd.1), ((v10.snd.fst.snd.snd.1), ()))), ((v13), (((v10.fst.fst.1), ((v10.fst.fst.snd.1), ())), ()))))
                  else
                    none
                else
                  none
            else
              let v9 := (IntKind.wrap IntKind.i64 (v1.fst.fst - 8))
              let v10 := (farith BinOp.quo FloatKind.f32 (FloatKind.nearest FloatKind.f32 v9) 1082130432)
              let v11 := (farith BinOp.add FloatKind.f32 v.snd.snd.snd.fst.fst v10)
              let v12 := (g72 (v5, 0, 180, ()))
              let v13 := (List.set (List.replicate 1 (zero S25)) 0 (v11, v12))
              bif (capOk (List.length v.snd.snd.fst + List.length v13)) then
                let v14 := (IntKind.wrap IntKind.i64 (v.fst.snd.snd.fst - 1))
                let v15 := (v.snd.snd.fst ++ v13)
                f (((), ((), ((v14), ((), ())))), (((v8.snd.fst.1), ((v8.snd.fst.snd.1), ((v8.snd.fst.snd.snd.1), ()))), ((v15), (((v11), ((v12.1), ())), ()))))
              else
                none
          else
            none
        else
          none
      else
        none
    else
      none
  else
    h (((), ()), (((v.snd.fst.1), ((v.snd.fst.snd.1), ((v.snd.fst.snd.snd.1), ()))), ((v.snd.snd.1), ())))
theorem evlN63_6 (k67 : I67.den → Bool) (g67 : I67.den → O67.den) (k65 : I65.den → Bool) (g65 : I65.den → O65.den) (k60 : I60.den → Bool) (g60 : I60.den → O60.den) (k72 : Den A72 → Bool) (g72 : Den A72 → Den R72) (kl6 : V63_6 → Bool) (xl6 : V63_6 → X63_6) (p60 : I60.den → Bool) (Q60 : I60.den → O60.den → Prop) (e60 : Nonempty (Ch I60 O60 p60 Q60)) (pL63_6 : V63_6 → Bool) (QL63_6 : V63_6 → X63_6 → Prop) (eL63_6 : Nonempty (ChL pL63_6 QL63_6)) (h : X63_6 → Option Unit) (f : V63_6 → Option Unit) (v : V63_6) : EBn (Γ63 k67 g67 k65 g65 k60 g60 k72 g72 kl6 xl6) (N63 p60 Q60 e60 pL63_6 QL63_6 eL63_6) lc63_6 (roundK [0, 3, 4, 5] [] 0 [3] [] (atS sh63_6 f) (endH shX63_6 h)) (mkS sh63_6 v) = qN63_6 k67 g67 k65 g65 k60 g60 k72 g72 kl6 xl6 p60 Q60 e60 pL63_6 QL63_6 eL63_6 h f v := by kernel_rfl
noncomputable def rN63 (k67 : I67.den → Bool) (g67 : I67.den → O67.den) (k65 : I65.den → Bool) (g65 : I65.den → O65.den) (k60 : I60.den → Bool) (g60 : I60.den → O60.den) (k72 : Den A72 → Bool) (g72 : Den A72 → Den R72) (kl6 : V63_6 → Bool) (xl6 : V63_6 → X63_6) (p60 : I60.den → Bool) (Q60 : I60.den → O60.den → Prop) (e60 : Nonempty (Ch I60 O60 p60 Q60)) (pL63_6 : V63_6 → Bool) (QL63_6 : V63_6 → X63_6 → Prop) (eL63_6 : Nonempty (ChL pL63_6 QL63_6)) (h : O63.den → Option Unit) (x : I63.den) : Option Unit :=
  let v0 := (k67 (((), 9, ()), x.snd))
  bif (v0) then
    let v1 := (g67 (((), 9, ()), x.snd))
    let v2 := (k65 (((), 30, ()), v1.snd))
    bif (v2) then
      let v3 := (g65 (((), 30, ()), v1.snd))
      bif (v3.fst.1) then
        let v4 := (k67 (((), 2, ()), v3.snd))
        bif (v4) then
          allK fun (c60_10 : Ch I60 O60 p60 Q60) =>
            let v5 := (g67 (((), 2, ()), v3.snd))
            let v6 := (p60 (((), ()), v5.snd))
            bif (v6) then
              let v7 := (IntKind.wrap IntKind.i64 (60 + v5.fst.fst))
              let v8 := (c60_10.val (((), ()), v5.snd))
              let v9 := (pL63_6 (((), (), v7, (), ()), v8.snd.fst, List.replicate 0 (zero S25), v8.fst))
              bif (v9) then
                allK fun (cL63_6_16 : ChL pL63_6 QL63_6) =>
                  let v10 := (cL63_6_16.val (((), (), v7, (), ()), v8.snd.fst, List.replicate 0 (zero S25), v8.fst))
                  h (((), ()), (((v10.snd.fst.1), ((v10.snd.fst.snd.1), ((v10.snd.fst.snd.snd.1), ()))), ((v10.snd.snd.1), ())))
              else
                none
            else
              none
        else
          none
      else
        allK fun (c60_8 : Ch I60 O60 p60 Q60) =>
          let v4 := (p60 (((), ()), v3.snd))
          bif (v4) then
            let v5 := (c60_8.val (((), ()), v3.snd))
            let v6 := (pL63_6 (((), (), v1.fst.fst, (), ()), v5.snd.fst, List.replicate 0 (zero S25), v5.fst))
            bif (v6) then
              allK fun (cL63_6_14 : ChL pL63_6 QL63_6) =>
                let v7 := (cL63_6_14.val (((), (), v1.fst.fst, (), ()), v5.snd.fst, List.replicate 0 (zero S25), v5.fst))
                h (((), ()), (((v7.snd.fst.1), ((v7.snd.fst.snd.1), ((v7.snd.fst.snd.snd.1), ()))), ((v7.snd.snd.1), ())))
            else
              none
          else
            none
    else
      none
  else
    none
theorem evN63 (k67 : I67.den → Bool) (g67 : I67.den → O67.den) (k65 : I65.den → Bool) (g65 : I65.den → O65.den) (k60 : I60.den → Bool) (g60 : I60.den → O60.den) (k72 : Den A72 → Bool) (g72 : Den A72 → Den R72) (kl6 : V63_6 → Bool) (xl6 : V63_6 → X63_6) (p60 : I60.den → Bool) (Q60 : I60.den → O60.den → Prop) (e60 : Nonempty (Ch I60 O60 p60 Q60)) (pL63_6 : V63_6 → Bool) (QL63_6 : V63_6 → X63_6 → Prop) (eL63_6 : Nonempty (ChL pL63_6 QL63_6)) (h : O63.den → Option Unit) (x : I63.den) : callSN (Γ63 k67 g67 k65 g65 k60 g60 k72 g72 kl6 xl6) (N63 p60 Q60 e60 pL63_6 QL63_6 eL63_6) (bodyOf Try.f63) I63 O63 h x = rN63 k67 g67 k65 g65 k60 g60 k72 g72 kl6 xl6 p60 Q60 e60 pL63_6 QL63_6 eL63_6 h x := by kernel_rfl

/- "loop.example/g03321/spec.DrawRunSails" -/
noncomputable def N42 (p59 : I59.den → Bool) (Q59 : I59.den → O59.den → Prop) (e59 : Nonempty (Ch I59 O59 p59 Q59)) (p63 : I63.den → Bool) (Q63 : I63.den → O63.den → Prop) (e63 : Nonempty (Ch I63 O63 p63 Q63)) : NEnv := mkN [(59, sgFam true I59 O59 p59 Q59 e59), (63, sgFam true I63 O63 p63 Q63 e63)] []
noncomputable def rN42 (k58 : I58.den → Bool) (g58 : I58.den → O58.den) (k59 : I59.den → Bool) (g59 : I59.den → O59.den) (k62 : I62.den → Bool) (g62 : I62.den → O62.den) (k63 : I63.den → Bool) (g63 : I63.den → O63.den) (p59 : I59.den → Bool) (Q59 : I59.den → O59.den → Prop) (e59 : Nonempty (Ch I59 O59 p59 Q59)) (p63 : I63.den → Bool) (Q63 : I63.den → O63.den → Prop) (e63 : Nonempty (Ch I63 O63 p63 Q63)) (h : O42.den → Option Unit) (x : I42.den) : Option Unit :=
  let v0 := (k58 x)
  bif (v0) then
    allK fun (c59_4 : Ch I59 O59 p59 Q59) =>
      let v1 := (g58 x)
      let v2 := (p59 (((), ()), v1.snd))
      bif (v2) then
        let v3 := (c59_4.val (((), ()), v1.snd))
        let v4 := (k62 (((), (↑(List.length v3.snd.snd.fst) : Int), ()), v3.snd.fst, ()))
        bif (v4) then
          allK fun (c63_10 : Ch I63 O63 p63 Q63) =>
            let v5 := (g62 (((), (↑(List.length v3.snd.snd.fst) : Int), ()), v3.snd.fst, ()))
            let v6 := (p63 (((), ()), v5.snd))
            bif (v6) then
              let v7 := (c63_10.val (((), ()), v5.snd))
              h (((), ((v5.fst.1), ((), ()))), ((v3.snd.snd.1), ((v7.snd.snd.1), ())))
            else
              none
        else
          none
      else
        none
  else
    none
theorem evN42 (k58 : I58.den → Bool) (g58 : I58.den → O58.den) (k59 : I59.den → Bool) (g59 : I59.den → O59.den) (k62 : I62.den → Bool) (g62 : I62.den → O62.den) (k63 : I63.den → Bool) (g63 : I63.den → O63.den) (p59 : I59.den → Bool) (Q59 : I59.den → O59.den → Prop) (e59 : Nonempty (Ch I59 O59 p59 Q59)) (p63 : I63.den → Bool) (Q63 : I63.den → O63.den → Prop) (e63 : Nonempty (Ch I63 O63 p63 Q63)) (h : O42.den → Option Unit) (x : I42.den) : callSN (Γ42 k58 g58 k59 g59 k62 g62 k63 g63) (N42 p59 Q59 e59 p63 Q63 e63) (bodyOf Try.f42) I42 O42 h x = rN42 k58 g58 k59 g59 k62 g62 k63 g63 p59 Q59 e59 p63 Q63 e63 h x := by kernel_rfl

/- "loop.example/g03321/spec.DrawPlanOk" -/
noncomputable def N51 (p59 : I59.den → Bool) (Q59 : I59.den → O59.den → Prop) (e59 : Nonempty (Ch I59 O59 p59 Q59)) (p63 : I63.den → Bool) (Q63 : I63.den → O63.den → Prop) (e63 : Nonempty (Ch I63 O63 p63 Q63)) : NEnv := mkN [(59, sgFam true I59 O59 p59 Q59 e59), (63, sgFam true I63 O63 p63 Q63 e63)] []
noncomputable def rN51 (k58 : I58.den → Bool) (g58 : I58.den → O58.den) (k59 : I59.den → Bool) (g59 : I59.den → O59.den) (k63 : I63.den → Bool) (g63 : I63.den → O63.den) (k50 : I50.den → Bool) (g50 : I50.den → O50.den) (k65 : I65.den → Bool) (g65 : I65.den → O65.den) (k24 : Den A24 → Bool) (g24 : Den A24 → Den R24) (k62 : I62.den → Bool) (g62 : I62.den → O62.den) (kl6 : V51_6 → Bool) (xl6 : V51_6 → X51_6) (kl10 : V51_10 → Bool) (xl10 : V51_10 → X51_10) (p59 : I59.den → Bool) (Q59 : I59.den → O59.den → Prop) (e59 : Nonempty (Ch I59 O59 p59 Q59)) (p63 : I63.den → Bool) (Q63 : I63.den → O63.den → Prop) (e63 : Nonempty (Ch I63 O63 p63 Q63)) (h : O51.den → Option Unit) (x : I51.den) : Option Unit :=
  let v0 := (k58 x)
  bif (v0) then
    allK fun (c59_4 : Ch I59 O59 p59 Q59) =>
      let v1 := (g58 x)
      let v2 := (p59 (((), ()), v1.snd))
      bif (v2) then
        allK fun (c63_8 : Ch I63 O63 p63 Q63) =>
          let v3 := (c59_4.val (((), ()), v1.snd))
          let v4 := (p63 (((), ()), v3.snd.fst, ()))
          bif (v4) then
            let v5 := (c63_8.val (((), ()), v3.snd.fst, ()))
            let v6 := (k50 ((v3.snd.snd.fst, 0, v5.snd.snd), ()))
            bif (v6) then
              let v7 := (g50 ((v3.snd.snd.fst, 0, v5.snd.snd), ()))
              let v8 := (kl6 (((), (), (), (), 0, ()), v5.snd.fst, v3.snd.snd.fst, v5.snd.snd.fst, v7.snd))
              bif (v8) then
                let v9 := (xl6 (((), (), (), (), 0, ()), v5.snd.fst, v3.snd.snd.fst, v5.snd.snd.fst, v7.snd))
                bif (decide ((↑(List.length v9.snd.snd.snd.snd.fst) : Int) > 0)) then
                  let v10 := (k65 (((), 8, ()), v9.snd.fst, ()))
                  bif (v10) then
                    let v11 := (g65 (((), 8, ()), v9.snd.fst, ()))
                    bif (v11.fst.1) then
                      let v12 := (k62 (((), (↑(List.length v9.snd.snd.fst) : Int), ()), v11.snd))
                      bif (v12) then
                        bif (decide (0 ≤ 0) && decide (0 < (↑(List.length v9.snd.snd.snd.snd.fst) : Int))) then
                          let v13 := (g62 (((), (↑(List.length v9.snd.snd.fst) : Int), ()), v11.snd))
                          let v14 := (k65 (((), 20, ()), v13.snd))
                          bif (v14) then
                            let v15 := (g65 (((), 20, ()), v13.snd))
                            bif (v15.fst.1) then
                              let v16 := (List.set v9.snd.snd.snd.snd.fst (Int.toNat 0) v13.fst.fst)
                              let v17 := (List.set (List.replicate 1 (zero (Ty.int IntKind.i64))) 0 0)
                              bif (capOk (List.length v16 + List.length v17)) then
                                let v18 := (v16 ++ v17)
                                h (((), ((), ((), ()))), ((v9.snd.snd.1), ((v9.snd.snd.snd.1), ((v18), ()))))
                              else
                                none
                            else
                              let v16 := (List.set v9.snd.snd.snd.snd.fst (Int.toNat 0) v13.fst.fst)
                              h (((), ((), ((), ()))), ((v9.snd.snd.1), ((v9.snd.snd.snd.1), ((v16), ()))))
                          else
                            none
                        else
                          none
                      else
                        none
                    else
                      let v12 := (k65 (((), 20, ()), v11.snd))
                      bif (v12) then
                        let v13 := (g65 (((), 20, ()), v11.snd))
                        bif (v13.fst.1) then
                          let v14 := (List.set (List.replicate 1 (zero (Ty.int IntKind.i64))) 0 0)
                          bif (capOk (List.length v9.snd.snd.snd.snd.fst + List.length v14)) then
                            let v15 := (v9.snd.snd.snd.snd.fst ++ v14)
                            h (((), ((), ((), ()))), ((v9.snd.snd.1), ((v9.snd.snd.snd.1), ((v15), ()))))
                          else
                            none
                        else
                          h (((), ((), ((), ()))), ((v9.snd.snd.1), ((v9.snd.snd.snd.1), ((v9.snd.snd.snd.snd.1), ()))))
                      else
                        none
                  else
                    none
                else
                  let v10 := (k65 (((), 20, ()), v9.snd.fst, ()))
                  bif (v10) then
                    let v11 := (g65 (((), 20, ()), v9.snd.fst, ()))
                    bif (v11.fst.1) then
                      let v12 := (List.set (List.replicate 1 (zero (Ty.int IntKind.i64))) 0 0)
                      bif (capOk (List.length v9.snd.snd.snd.snd.fst + List.length v12)) then
                        let v13 := (v9.snd.snd.snd.snd.fst ++ v12)
                        h (((), ((), ((), ()))), ((v9.snd.snd.1), ((v9.snd.snd.snd.1), ((v13), ()))))
                      else
                        none
                    else
                      h (((), ((), ((), ()))), ((v9.snd.snd.1), ((v9.snd.snd.snd.1), ((v9.snd.snd.snd.snd.1), ()))))
                  else
                    none
              else
                none
            else
              none
          else
            none
      else
        none
  else
    none
theorem evN51 (k58 : I58.den → Bool) (g58 : I58.den → O58.den) (k59 : I59.den → Bool) (g59 : I59.den → O59.den) (k63 : I63.den → Bool) (g63 : I63.den → O63.den) (k50 : I50.den → Bool) (g50 : I50.den → O50.den) (k65 : I65.den → Bool) (g65 : I65.den → O65.den) (k24 : Den A24 → Bool) (g24 : Den A24 → Den R24) (k62 : I62.den → Bool) (g62 : I62.den → O62.den) (kl6 : V51_6 → Bool) (xl6 : V51_6 → X51_6) (kl10 : V51_10 → Bool) (xl10 : V51_10 → X51_10) (p59 : I59.den → Bool) (Q59 : I59.den → O59.den → Prop) (e59 : Nonempty (Ch I59 O59 p59 Q59)) (p63 : I63.den → Bool) (Q63 : I63.den → O63.den → Prop) (e63 : Nonempty (Ch I63 O63 p63 Q63)) (h : O51.den → Option Unit) (x : I51.den) : callSN (Γ51 k58 g58 k59 g59 k63 g63 k50 g50 k65 g65 k24 g24 k62 g62 kl6 xl6 kl10 xl10) (N51 p59 Q59 e59 p63 Q63 e63) (bodyOf Try.f51) I51 O51 h x = rN51 k58 g58 k59 g59 k63 g63 k50 g50 k65 g65 k24 g24 k62 g62 kl6 xl6 kl10 xl10 p59 Q59 e59 p63 Q63 e63 h x := by kernel_rfl

/- "loop.example/g03321/laws.FnFitsBoth" -/
noncomputable def N8 (p34 : I34.den → Bool) (Q34 : I34.den → O34.den → Prop) (e34 : Nonempty (Ch I34 O34 p34 Q34)) : NEnv := mkN [(34, sgFam false I34 O34 p34 Q34 e34)] []
noncomputable def rN8 (k33 : Den A33 → Bool) (g33 : Den A33 → Den R33) (k34 : I34.den → Bool) (g34 : I34.den → O34.den) (k32 : Den A32 → Bool) (g32 : Den A32 → Den R32) (k19 : Den A19 → Bool) (g19 : Den A19 → Den R19) (k25 : Den A25 → Bool) (g25 : Den A25 → Den R25) (k29 : Den A29 → Bool) (g29 : Den A29 → Den R29) (kl8 : V8_8 → Bool) (xl8 : V8_8 → X8_8) (tl8 : V8_8 → Bool) (yl8 : V8_8 → Y8_8) (p34 : I34.den → Bool) (Q34 : I34.den → O34.den → Prop) (e34 : Nonempty (Ch I34 O34 p34 Q34)) (h : Den R8 → Option Unit) (x : Den A8) : Option Unit :=
  let v0 := (k33 x)
  bif (v0) then
    let v1 := (g33 x)
    bif (v1.1) then
      h ((true), ())
    else
      allK fun (c34_6 : Ch I34 O34 p34 Q34) =>
        let v2 := (p34 (x, ()))
        bif (v2) then
          let v3 := (c34_6.val (x, ()))
          let v4 := (k32 (v3.snd.fst, v3.fst.snd))
          bif (v4) then
            let v5 := (g32 (v3.snd.fst, v3.fst.snd))
            bif (decide (v5.fst ≥ (↑(List.length v3.snd.fst) : Int))) then
              h ((false), ())
            else
              bif (decide (v5.fst ≥ 0)) then
                bif (decide (0 ≤ v5.fst) && decide (v5.fst < (↑(List.length v3.snd.fst) : Int))) then
                  let v6 := (List.getD v3.snd.fst (Int.toNat v5.fst) (zero S23))
                  let v7 := (k19 (v6, v3.fst.snd))
                  bif (v7) then
                    let v8 := (g19 (v6, v3.fst.snd))
                    bif (!v8.fst) then
                      h ((false), ())
                    else
                      bif (decide (0 ≤ v5.fst) && decide (v5.fst < (↑(List.length v3.snd.fst) : Int))) then
                        let v9 := (k25 (v6, v3.fst.snd))
                        bif (v9) then
                          let v10 := (g25 (v6, v3.fst.snd))
                          bif (!v10.fst) then
                            h ((false), ())
                          else
                            let v11 := (kl8 (((), (), v5.fst, 0, ()), v3.snd.fst, v3.fst.snd))
                            bif (v11) then
                              let v12 := (tl8 (((), (), v5.fst, 0, ()), v3.snd.fst, v3.fst.snd))
                              bif (v12) then
                                let v13 := (yl8 (((), (), v5.fst, 0, ()), v3.snd.fst, v3.fst.snd))
                                h ((v13.fst.1), ())
                              else
                                let v13 := (xl8 (((), (), v5.fst, 0, ()), v3.snd.fst, v3.fst.snd))
                                h ((decide (v13.fst.fst ≥ -1)), ())
                            else
                              none
                        else
                          none
                      else
                        none
                  else
                    none
                else
                  none
              else
                let v6 := (kl8 (((), (), v5.fst, 0, ()), v3.snd.fst, v3.fst.snd))
                bif (v6) then
                  let v7 := (tl8 (((), (), v5.fst, 0, ()), v3.snd.fst, v3.fst.snd))
                  bif (v7) then
                    let v8 := (yl8 (((), (), v5.fst, 0, ()), v3.snd.fst, v3.fst.snd))
                    h ((v8.fst.1), ())
                  else
                    let v8 := (xl8 (((), (), v5.fst, 0, ()), v3.snd.fst, v3.fst.snd))
                    h ((decide (v8.fst.fst ≥ -1)), ())
                else
                  none
          else
            none
        else
          none
  else
    none
theorem evN8 (k33 : Den A33 → Bool) (g33 : Den A33 → Den R33) (k34 : I34.den → Bool) (g34 : I34.den → O34.den) (k32 : Den A32 → Bool) (g32 : Den A32 → Den R32) (k19 : Den A19 → Bool) (g19 : Den A19 → Den R19) (k25 : Den A25 → Bool) (g25 : Den A25 → Den R25) (k29 : Den A29 → Bool) (g29 : Den A29 → Den R29) (kl8 : V8_8 → Bool) (xl8 : V8_8 → X8_8) (tl8 : V8_8 → Bool) (yl8 : V8_8 → Y8_8) (p34 : I34.den → Bool) (Q34 : I34.den → O34.den → Prop) (e34 : Nonempty (Ch I34 O34 p34 Q34)) (h : Den R8 → Option Unit) (x : Den A8) : callN (Γ8 k33 g33 k34 g34 k32 g32 k19 g19 k25 g25 k29 g29 kl8 xl8 tl8 yl8) (N8 p34 Q34 e34) (bodyOf Try.f8) (decRH R8 h) (encA A8 x) [] = rN8 k33 g33 k34 g34 k32 g32 k19 g19 k25 g25 k29 g29 kl8 xl8 tl8 yl8 p34 Q34 e34 h x := by kernel_rfl

/- "loop.example/g03321/laws.FnKept" -/
noncomputable def N11 (p42 : I42.den → Bool) (Q42 : I42.den → O42.den → Prop) (e42 : Nonempty (Ch I42 O42 p42 Q42)) : NEnv := mkN [(42, sgFam false I42 O42 p42 Q42 e42)] []
noncomputable def rN11 (k33 : Den A33 → Bool) (g33 : Den A33 → Den R33) (k42 : I42.den → Bool) (g42 : I42.den → O42.den) (k43 : I43.den → Bool) (g43 : I43.den → O43.den) (k27 : Den A27 → Bool) (g27 : Den A27 → Den R27) (k25 : Den A25 → Bool) (g25 : Den A25 → Den R25) (k32 : Den A32 → Bool) (g32 : Den A32 → Den R32) (kl10 : V11_10 → Bool) (xl10 : V11_10 → X11_10) (tl10 : V11_10 → Bool) (yl10 : V11_10 → Y11_10) (p42 : I42.den → Bool) (Q42 : I42.den → O42.den → Prop) (e42 : Nonempty (Ch I42 O42 p42 Q42)) (h : Den R11 → Option Unit) (x : Den A11) : Option Unit :=
  let v0 := (k33 x)
  bif (v0) then
    let v1 := (g33 x)
    bif (v1.1) then
      h ((true), ())
    else
      allK fun (c42_6 : Ch I42 O42 p42 Q42) =>
        let v2 := (p42 (x, ()))
        bif (v2) then
          let v3 := (c42_6.val (x, ()))
          let v4 := (k43 ((v3.snd.fst, v3.fst.snd.fst, v3.snd.snd), ()))
          bif (v4) then
            let v5 := (k27 (v3.snd.fst, ()))
            bif (v5) then
              let v6 := (g27 (v3.snd.fst, ()))
              bif (!v6.fst) then
                let v7 := (g43 ((v3.snd.fst, v3.fst.snd.fst, v3.snd.snd), ()))
                h (((↑(List.length v7.snd.fst) : Int) == 0), ())
              else
                bif (decide ((↑(List.length v3.snd.snd.fst) : Int) > 60)) then
                  let v7 := (g43 ((v3.snd.fst, v3.fst.snd.fst, v3.snd.snd), ()))
                  h (((↑(List.length v7.snd.fst) : Int) == 0), ())
                else
                  let v7 := (g43 ((v3.snd.fst, v3.fst.snd.fst, v3.snd.snd), ()))
                  bif ((↑(List.length v7.snd.fst) : Int) != (↑(List.length v3.snd.snd.fst) : Int)) then
                    h ((false), ())
                  else
                    let v8 := (kl10 (((), v3.fst.snd.fst, (), (), 0, ()), v3.snd.fst, v3.snd.snd.fst, v7.snd))
                    bif (v8) then
                      let v9 := (tl10 (((), v3.fst.snd.fst, (), (), 0, ()), v3.snd.fst, v3.snd.snd.fst, v7.snd))
                      bif (v9) then
                        let v10 := (yl10 (((), v3.fst.snd.fst, (), (), 0, ()), v3.snd.fst, v3.snd.snd.fst, v7.snd))
                        h ((v10.fst.1), ())
                      else
                        h ((true), ())
                    else
                      none
            else
              none
          else
            none
        else
          none
  else
    none
theorem evN11 (k33 : Den A33 → Bool) (g33 : Den A33 → Den R33) (k42 : I42.den → Bool) (g42 : I42.den → O42.den) (k43 : I43.den → Bool) (g43 : I43.den → O43.den) (k27 : Den A27 → Bool) (g27 : Den A27 → Den R27) (k25 : Den A25 → Bool) (g25 : Den A25 → Den R25) (k32 : Den A32 → Bool) (g32 : Den A32 → Den R32) (kl10 : V11_10 → Bool) (xl10 : V11_10 → X11_10) (tl10 : V11_10 → Bool) (yl10 : V11_10 → Y11_10) (p42 : I42.den → Bool) (Q42 : I42.den → O42.den → Prop) (e42 : Nonempty (Ch I42 O42 p42 Q42)) (h : Den R11 → Option Unit) (x : Den A11) : callN (Γ11 k33 g33 k42 g42 k43 g43 k27 g27 k25 g25 k32 g32 kl10 xl10 tl10 yl10) (N11 p42 Q42 e42) (bodyOf Try.f11) (decRH R11 h) (encA A11 x) [] = rN11 k33 g33 k42 g42 k43 g43 k27 g27 k25 g25 k32 g32 kl10 xl10 tl10 yl10 p42 Q42 e42 h x := by kernel_rfl

/- "loop.example/g03321/laws.FnFewest" -/
noncomputable def N14 (p51 : I51.den → Bool) (Q51 : I51.den → O51.den → Prop) (e51 : Nonempty (Ch I51 O51 p51 Q51)) : NEnv := mkN [(51, sgFam false I51 O51 p51 Q51 e51)] []
noncomputable def rN14 (k33 : Den A33 → Bool) (g33 : Den A33 → Den R33) (k51 : I51.den → Bool) (g51 : I51.den → O51.den) (k45 : I45.den → Bool) (g45 : I45.den → O45.den) (k44 : I44.den → Bool) (g44 : I44.den → O44.den) (k40 : Den A40 → Bool) (g40 : Den A40 → Den R40) (k22 : Den A22 → Bool) (g22 : Den A22 → Den R22) (p51 : I51.den → Bool) (Q51 : I51.den → O51.den → Prop) (e51 : Nonempty (Ch I51 O51 p51 Q51)) (h : Den R14 → Option Unit) (x : Den A14) : Option Unit :=
  let v0 := (k33 x)
  bif (v0) then
    let v1 := (g33 x)
    bif (v1.1) then
      h ((true), ())
    else
      allK fun (c51_6 : Ch I51 O51 p51 Q51) =>
        let v2 := (p51 (x, ()))
        bif (v2) then
          let v3 := (c51_6.val (x, ()))
          let v4 := (k45 ((v3.snd.fst, v3.snd.snd.fst, ()), ()))
          bif (v4) then
            let v5 := (k44 ((v3.snd.fst, v3.snd.snd.fst, ()), ()))
            bif (v5) then
              let v6 := (g45 ((v3.snd.fst, v3.snd.snd.fst, ()), ()))
              let v7 := (g44 ((v3.snd.fst, v3.snd.snd.fst, ()), ()))
              bif (!v6.fst.snd.fst == v7.fst.snd.fst) then
                h ((false), ())
              else
                bif (!v6.fst.snd.fst) then
                  bif ((↑(List.length v6.snd.fst) : Int) == 0) then
                    let v8 := (k40 v3.snd)
                    bif (v8) then
                      let v9 := (g40 v3.snd)
                      h ((!v9.fst), ())
                    else
                      none
                  else
                    h ((false), ())
                else
                  let v8 := (k40 (v3.snd.fst, v3.snd.snd.fst, v6.snd))
                  bif (v8) then
                    let v9 := (g40 (v3.snd.fst, v3.snd.snd.fst, v6.snd))
                    bif (!v9.fst) then
                      h ((false), ())
                    else
                      let v10 := (k40 v3.snd)
                      bif (v10) then
                        let v11 := (g40 v3.snd)
                        bif (!v11.fst) then
                          h ((true), ())
                        else
                          let v12 := (k22 v6.snd)
                          bif (v12) then
                            let v13 := (k22 v3.snd.snd.snd)
                            bif (v13) then
                              let v14 := (g22 v6.snd)
                              let v15 := (g22 v3.snd.snd.snd)
                              h ((decide (v14.fst ≤ v15.fst)), ())
                            else
                              none
                          else
                            none
                      else
                        none
                  else
                    none
            else
              none
          else
            none
        else
          none
  else
    none
theorem evN14 (k33 : Den A33 → Bool) (g33 : Den A33 → Den R33) (k51 : I51.den → Bool) (g51 : I51.den → O51.den) (k45 : I45.den → Bool) (g45 : I45.den → O45.den) (k44 : I44.den → Bool) (g44 : I44.den → O44.den) (k40 : Den A40 → Bool) (g40 : Den A40 → Den R40) (k22 : Den A22 → Bool) (g22 : Den A22 → Den R22) (p51 : I51.den → Bool) (Q51 : I51.den → O51.den → Prop) (e51 : Nonempty (Ch I51 O51 p51 Q51)) (h : Den R14 → Option Unit) (x : Den A14) : callN (Γ14 k33 g33 k51 g51 k45 g45 k44 g44 k40 g40 k22 g22) (N14 p51 Q51 e51) (bodyOf Try.f14) (decRH R14 h) (encA A14 x) [] = rN14 k33 g33 k51 g51 k45 g45 k44 g44 k40 g40 k22 g22 p51 Q51 e51 h x := by kernel_rfl

end Go.Proofs.Ytbgkhcoeifbgkaa.AM
