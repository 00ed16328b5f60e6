/- What functions whose answers are open make of their arguments; each is what its evaluation says. Printed by fn.py. -/
import Derived.Test.YtmmdjajebmihhaaU0
import Derived.Test.YtmmdjajebmihhaaN4
namespace Go.Proofs.Ytmmdjajebmihhaa.AM
open Go Go.Proofs
set_option linter.unusedVariables false
set_option maxRecDepth 100000
set_option maxHeartbeats 0

/- "loop.example/g03321/spec.l03Single" -/
noncomputable def N107 : NEnv := mkN [] []
noncomputable def rN107 (k80 : I80.den → Bool) (g80 : I80.den → O80.den) (h : O107.den → Option Unit) (x : I107.den) : Option Unit :=
  let v0 := (k80 (((), x.fst.snd), x.snd))
  bif (v0) then
    let v1 := (g80 (((), x.fst.snd), x.snd))
    bif (narrowOk v1.fst.fst) then
      bif ((convF FloatKind.f64 FloatKind.f32 v1.fst.fst).1) then
        h ((((convF FloatKind.f64 FloatKind.f32 v1.fst.fst).2), ()), (((v1.snd.fst.1), ((v1.snd.fst.snd.1), ((v1.snd.fst.snd.snd.1), ()))), ()))
      else
        none
    else
      allK fun (z6 : Bits32) =>
        h (((z6.1), ()), (((v1.snd.fst.1), ((v1.snd.fst.snd.1), ((v1.snd.fst.snd.snd.1), ()))), ()))
  else
    none
theorem evN107 (k80 : I80.den → Bool) (g80 : I80.den → O80.den) (h : O107.den → Option Unit) (x : I107.den) : callSN (Γ107 k80 g80) (N107) (bodyOf Try.f107) I107 O107 h x = rN107 k80 g80 h x := by kernel_rfl

/- "loop.example/g03321/spec.l03Air" -/
noncomputable def N90 (p107 : I107.den → Bool) (Q107 : I107.den → O107.den → Prop) (e107 : Nonempty (Ch I107 O107 p107 Q107)) : NEnv := mkN [(107, sgFam true I107 O107 p107 Q107 e107)] []
noncomputable def rN90 (k45 : I45.den → Bool) (g45 : I45.den → O45.den) (k106 : I106.den → Bool) (g106 : I106.den → O106.den) (k76 : I76.den → Bool) (g76 : I76.den → O76.den) (k107 : I107.den → Bool) (g107 : I107.den → O107.den) (p107 : I107.den → Bool) (Q107 : I107.den → O107.den → Prop) (e107 : Nonempty (Ch I107 O107 p107 Q107)) (h : O90.den → Option Unit) (x : I90.den) : Option Unit :=
  let v0 := (k45 (((), 30, ()), x.snd))
  bif (v0) then
    let v1 := (g45 (((), 30, ()), x.snd))
    bif (v1.fst.1) then
      let v2 := (k106 (((), ()), v1.snd))
      bif (v2) then
        let v3 := (g106 (((), ()), v1.snd))
        bif (narrowOk v3.fst.fst) then
          bif ((convF FloatKind.f64 FloatKind.f32 v3.fst.fst).1) then
            let v4 := (k106 (((), ()), v3.snd))
            bif (v4) then
              let v5 := (g106 (((), ()), v3.snd))
              bif (narrowOk v5.fst.fst) then
                bif ((convF FloatKind.f64 FloatKind.f32 v5.fst.fst).1) then
                  h (((((convF FloatKind.f64 FloatKind.f32 v3.fst.fst).2), ((convF FloatKind.f64 FloatKind.f32 v5.fst.fst).2)), ()), (((v5.snd.fst.1), ((v5.snd.fst.snd.1), ((v5.snd.fst.snd.snd.1), ()))), ()))
                else
                  none
              else
                allK fun (z16 : Bits32) =>
                  h (((((convF FloatKind.f64 FloatKind.f32 v3.fst.fst).2), (z16.1)), ()), (((v5.snd.fst.1), ((v5.snd.fst.snd.1), ((v5.snd.fst.snd.snd.1), ()))), ()))
            else
              none
          else
            none
        else
          allK fun (z10 : Bits32) =>
            let v4 := (k106 (((), ()), v3.snd))
            bif (v4) then
              let v5 := (g106 (((), ()), v3.snd))
              bif (narrowOk v5.fst.fst) then
                bif ((convF FloatKind.f64 FloatKind.f32 v5.fst.fst).1) then
                  h ((((z10.1), ((convF FloatKind.f64 FloatKind.f32 v5.fst.fst).2)), ()), (((v5.snd.fst.1), ((v5.snd.fst.snd.1), ((v5.snd.fst.snd.snd.1), ()))), ()))
                else
                  none
              else
                allK fun (z16 : Bits32) =>
                  h ((((z10.1), (z16.1)), ()), (((v5.snd.fst.1), ((v5.snd.fst.snd.1), ((v5.snd.fst.snd.snd.1), ()))), ()))
            else
              none
      else
        none
    else
      let v2 := (k45 (((), 20, ()), v1.snd))
      bif (v2) then
        let v3 := (g45 (((), 20, ()), v1.snd))
        bif (v3.fst.1) then
          let v4 := (List.set (List.replicate 4 (zero (Ty.int IntKind.i64))) 0 100)
          let v5 := (List.set v4 1 (-100))
          let v6 := (List.set v5 2 101)
          let v7 := (List.set v6 3 0)
          let v8 := (k76 (((), (), ()), v3.snd.fst, v7, ()))
          bif (v8) then
            allK fun (c107_12 : Ch I107 O107 p107 Q107) =>
              let v9 := (g76 (((), (), ()), v3.snd.fst, v7, ()))
              let v10 := (p107 (((), 100, ()), v9.snd.fst, ()))
              bif (v10) then
                let v11 := (c107_12.val (((), 100, ()), v9.snd.fst, ()))
                h ((((FloatKind.nearest FloatKind.f32 v9.fst.fst), (v11.fst.1)), ()), (((v11.snd.fst.1), ((v11.snd.fst.snd.1), ((v11.snd.fst.snd.snd.1), ()))), ()))
              else
                none
          else
            none
        else
          allK fun (c107_10 : Ch I107 O107 p107 Q107) =>
            let v4 := (p107 (((), 15, ()), v3.snd))
            bif (v4) then
              allK fun (c107_14 : Ch I107 O107 p107 Q107) =>
                let v5 := (c107_10.val (((), 15, ()), v3.snd))
                let v6 := (p107 (((), 15, ()), v5.snd))
                bif (v6) then
                  let v7 := (c107_14.val (((), 15, ()), v5.snd))
                  h ((((v5.fst.1), (v7.fst.1)), ()), (((v7.snd.fst.1), ((v7.snd.fst.snd.1), ((v7.snd.fst.snd.snd.1), ()))), ()))
                else
                  none
            else
              none
      else
        none
  else
    none
theorem evN90 (k45 : I45.den → Bool) (g45 : I45.den → O45.den) (k106 : I106.den → Bool) (g106 : I106.den → O106.den) (k76 : I76.den → Bool) (g76 : I76.den → O76.den) (k107 : I107.den → Bool) (g107 : I107.den → O107.den) (p107 : I107.den → Bool) (Q107 : I107.den → O107.den → Prop) (e107 : Nonempty (Ch I107 O107 p107 Q107)) (h : O90.den → Option Unit) (x : I90.den) : callSN (Γ90 k45 g45 k106 g106 k76 g76 k107 g107) (N90 p107 Q107 e107) (bodyOf Try.f90) I90 O90 h x = rN90 k45 g45 k106 g106 k76 g76 k107 g107 p107 Q107 e107 h x := by kernel_rfl

/- "loop.example/g03321/spec.l08Wind" -/
noncomputable def N74 (p90 : I90.den → Bool) (Q90 : I90.den → O90.den → Prop) (e90 : Nonempty (Ch I90 O90 p90 Q90)) : NEnv := mkN [(90, sgFam true I90 O90 p90 Q90 e90)] []
noncomputable def rN74 (k45 : I45.den → Bool) (g45 : I45.den → O45.den) (k90 : I90.den → Bool) (g90 : I90.den → O90.den) (k66 : I66.den → Bool) (g66 : I66.den → O66.den) (p90 : I90.den → Bool) (Q90 : I90.den → O90.den → Prop) (e90 : Nonempty (Ch I90 O90 p90 Q90)) (h : O74.den → Option Unit) (x : I74.den) : Option Unit :=
  let v0 := (k45 (((), 12, ()), x.snd))
  bif (v0) then
    let v1 := (g45 (((), 12, ()), x.snd))
    bif (v1.fst.1) then
      allK fun (c90_6 : Ch I90 O90 p90 Q90) =>
        let v2 := (p90 (((), ()), v1.snd))
        bif (v2) then
          let v3 := (c90_6.val (((), ()), v1.snd))
          h ((((v3.fst.fst.1), (v3.fst.fst.2)), ()), (((v3.snd.fst.1), ((v3.snd.fst.snd.1), ((v3.snd.fst.snd.snd.1), ()))), ()))
        else
          none
    else
      let v2 := (k66 (((), 129, ()), v1.snd))
      bif (v2) then
        let v3 := (g66 (((), 129, ()), v1.snd))
        let v4 := (k66 (((), 129, ()), v3.snd))
        bif (v4) then
          let v5 := (IntKind.wrap IntKind.i64 (v3.fst.fst - 64))
          let v6 := (farith BinOp.quo FloatKind.f32 (FloatKind.nearest FloatKind.f32 v5) 1090519040)
          let v7 := (g66 (((), 129, ()), v3.snd))
          let v8 := (IntKind.wrap IntKind.i64 (v7.fst.fst - 64))
          let v9 := (farith BinOp.quo FloatKind.f32 (FloatKind.nearest FloatKind.f32 v8) 1090519040)
          h ((((v6), (v9)), ()), (((v7.snd.fst.1), ((v7.snd.fst.snd.1), ((v7.snd.fst.snd.snd.1), ()))), ()))
        else
          none
      else
        none
  else
    none
theorem evN74 (k45 : I45.den → Bool) (g45 : I45.den → O45.den) (k90 : I90.den → Bool) (g90 : I90.den → O90.den) (k66 : I66.den → Bool) (g66 : I66.den → O66.den) (p90 : I90.den → Bool) (Q90 : I90.den → O90.den → Prop) (e90 : Nonempty (Ch I90 O90 p90 Q90)) (h : O74.den → Option Unit) (x : I74.den) : callSN (Γ74 k45 g45 k90 g90 k66 g66) (N74 p90 Q90 e90) (bodyOf Try.f74) I74 O74 h x = rN74 k45 g45 k90 g90 k66 g66 p90 Q90 e90 h x := by kernel_rfl

/- "loop.example/g03321/spec.l12Field" -/
noncomputable def N31 (p74 : I74.den → Bool) (Q74 : I74.den → O74.den → Prop) (e74 : Nonempty (Ch I74 O74 p74 Q74)) (pL31_4 : V31_4 → Bool) (QL31_4 : V31_4 → X31_4 → Prop) (eL31_4 : Nonempty (ChL pL31_4 QL31_4)) (pL31_8 : V31_8 → Bool) (QL31_8 : V31_8 → X31_8 → Prop) (eL31_8 : Nonempty (ChL pL31_8 QL31_8)) : NEnv := mkN [(74, sgFam true I74 O74 p74 Q74 e74)] [(4, loopXN [0, 2, 3, 4, 5] [.boxNil 3 3] 0 [0, 2, 3] [] sh31_4 shX31_4 pL31_4 QL31_4 eL31_4), (8, loopXN [0, 2, 3, 4, 5, 6, 7] [] 2 [0, 2, 3, 4, 5, 6] [] sh31_8 shX31_8 pL31_8 QL31_8 eL31_8)]
noncomputable def qN31_4 (k66 : I66.den → Bool) (g66 : I66.den → O66.den) (k74 : I74.den → Bool) (g74 : I74.den → O74.den) (k45 : I45.den → Bool) (g45 : I45.den → O45.den) (k75 : I75.den → Bool) (g75 : I75.den → O75.den) (k76 : I76.den → Bool) (g76 : I76.den → O76.den) (kl4 : V31_4 → Bool) (xl4 : V31_4 → X31_4) (kl8 : V31_8 → Bool) (xl8 : V31_8 → X31_8) (p74 : I74.den → Bool) (Q74 : I74.den → O74.den → Prop) (e74 : Nonempty (Ch I74 O74 p74 Q74)) (pL31_4 : V31_4 → Bool) (QL31_4 : V31_4 → X31_4 → Prop) (eL31_4 : Nonempty (ChL pL31_4 QL31_4)) (pL31_8 : V31_8 → Bool) (QL31_8 : V31_8 → X31_8 → Prop) (eL31_8 : Nonempty (ChL pL31_8 QL31_8)) (h : X31_4 → Option Unit) (f : V31_4 → Option Unit) (v : V31_4) : Option Unit :=
  bif (decide (v.fst.snd.snd.snd.snd.fst > 0)) then
    let v0 := (pL31_8 (((), (), (), v.fst.snd.snd.snd.fst, v.fst.snd.snd.snd.snd.fst, (), 0, ()), v.snd.fst, (v.snd.snd.fst.fst, v.snd.snd.fst.snd.fst, v.snd.snd.fst.snd.snd.fst, (), ()), (v.snd.snd.snd.fst.fst, v.snd.snd.snd.fst.snd.fst, v.snd.snd.snd.fst.snd.snd.fst, (), ()), v.snd.snd.snd.snd.fst, List.replicate 0 (zero (Ty.cpx FloatKind.f32)), ()))
    bif (v0) then
      allK fun (cL31_8_6 : ChL pL31_8 QL31_8) =>
        let v1 := (cL31_8_6.val (((), (), (), v.fst.snd.snd.snd.fst, v.fst.snd.snd.snd.snd.fst, (), 0, ()), v.snd.fst, (v.snd.snd.fst.fst, v.snd.snd.fst.snd.fst, v.snd.snd.fst.snd.snd.fst, (), ()), (v.snd.snd.snd.fst.fst, v.snd.snd.snd.fst.snd.fst, v.snd.snd.snd.fst.snd.snd.fst, (), ()), v.snd.snd.snd.snd.fst, List.replicate 0 (zero (Ty.cpx FloatKind.f32)), ()))
        let v2 := (List.set (List.replicate 1 (zero (Ty.slice (Ty.cpx FloatKind.f32)))) 0 v1.snd.snd.snd.snd.snd.fst)
        bif (capOk (List.length v1.snd.snd.snd.snd.fst + List.length v2)) then
          let v3 := (IntKind.wrap IntKind.i64 (v1.fst.snd.snd.snd.snd.fst - 1))
          let v4 := (v1.snd.snd.snd.snd.fst ++ v2)
          f (((), ((), ((), (((v1.fst.snd.snd.snd.fst.1), (v1.fst.snd.snd.snd.fst.2)), ((v3), ()))))), (((v1.snd.fst.1), ((v1.snd.fst.snd.1), ((v1.snd.fst.snd.snd.1), ()))), (((v1.snd.snd.fst.1), ((v1.snd.snd.fst.snd.1), ((v1.snd.snd.fst.snd.snd.1), ((), ())))), (((v1.snd.snd.snd.fst.1), ((v1.snd.snd.snd.fst.snd.1), ((v1.snd.snd.snd.fst.snd.snd.1), ((), ())))), ((v4), ())))))
        else
          none
    else
      none
  else
    h (((), ((), ((), ()))), (((v.snd.fst.1), ((v.snd.fst.snd.1), ((v.snd.fst.snd.snd.1), ()))), (((v.snd.snd.fst.1), ((v.snd.snd.fst.snd.1), ((v.snd.snd.fst.snd.snd.1), ((), ())))), (((v.snd.snd.snd.fst.1), ((v.snd.snd.snd.fst.snd.1), ((v.snd.snd.snd.fst.snd.snd.1), ((), ())))), ((v.snd.snd.snd.snd.1), ())))))
theorem evlN31_4 (k66 : I66.den → Bool) (g66 : I66.den → O66.den) (k74 : I74.den → Bool) (g74 : I74.den → O74.den) (k45 : I45.den → Bool) (g45 : I45.den → O45.den) (k75 : I75.den → Bool) (g75 : I75.den → O75.den) (k76 : I76.den → Bool) (g76 : I76.den → O76.den) (kl4 : V31_4 → Bool) (xl4 : V31_4 → X31_4) (kl8 : V31_8 → Bool) (xl8 : V31_8 → X31_8) (p74 : I74.den → Bool) (Q74 : I74.den → O74.den → Prop) (e74 : Nonempty (Ch I74 O74 p74 Q74)) (pL31_4 : V31_4 → Bool) (QL31_4 : V31_4 → X31_4 → Prop) (eL31_4 : Nonempty (ChL pL31_4 QL31_4)) (pL31_8 : V31_8 → Bool) (QL31_8 : V31_8 → X31_8 → Prop) (eL31_8 : Nonempty (ChL pL31_8 QL31_8)) (h : X31_4 → Option Unit) (f : V31_4 → Option Unit) (v : V31_4) : EBn (Γ31 k66 g66 k74 g74 k45 g45 k75 g75 k76 g76 kl4 xl4 kl8 xl8) (N31 p74 Q74 e74 pL31_4 QL31_4 eL31_4 pL31_8 QL31_8 eL31_8) lc31_4 (roundK [0, 2, 3, 4, 5] [.boxNil 3 3] 0 [0, 2, 3] [] (atS sh31_4 f) (endH shX31_4 h)) (mkS sh31_4 v) = qN31_4 k66 g66 k74 g74 k45 g45 k75 g75 k76 g76 kl4 xl4 kl8 xl8 p74 Q74 e74 pL31_4 QL31_4 eL31_4 pL31_8 QL31_8 eL31_8 h f v := by kernel_rfl
noncomputable def qN31_8 (k66 : I66.den → Bool) (g66 : I66.den → O66.den) (k74 : I74.den → Bool) (g74 : I74.den → O74.den) (k45 : I45.den → Bool) (g45 : I45.den → O45.den) (k75 : I75.den → Bool) (g75 : I75.den → O75.den) (k76 : I76.den → Bool) (g76 : I76.den → O76.den) (kl4 : V31_4 → Bool) (xl4 : V31_4 → X31_4) (kl8 : V31_8 → Bool) (xl8 : V31_8 → X31_8) (p74 : I74.den → Bool) (Q74 : I74.den → O74.den → Prop) (e74 : Nonempty (Ch I74 O74 p74 Q74)) (pL31_4 : V31_4 → Bool) (QL31_4 : V31_4 → X31_4 → Prop) (eL31_4 : Nonempty (ChL pL31_4 QL31_4)) (pL31_8 : V31_8 → Bool) (QL31_8 : V31_8 → X31_8 → Prop) (eL31_8 : Nonempty (ChL pL31_8 QL31_8)) (h : X31_8 → Option Unit) (f : V31_8 → Option Unit) (v : V31_8) : Option Unit :=
  let v0 := (IntKind.wrap IntKind.i64 (v.snd.snd.snd.fst.fst * v.snd.snd.snd.fst.snd.fst))
  bif (decide (v.fst.snd.snd.snd.snd.snd.snd.fst < v0)) then
    let v1 := (k45 (((), 3, ()), v.snd.fst, ()))
    bif (v1) then
      let v2 := (g45 (((), 3, ()), v.snd.fst, ()))
      bif (v2.fst.1) then
        allK fun (c74_8 : Ch I74 O74 p74 Q74) =>
          let v3 := (p74 (((), ()), v2.snd))
          bif (v3) then
            let v4 := (c74_8.val (((), ()), v2.snd))
            let v5 := (List.set (List.replicate 1 (zero (Ty.cpx FloatKind.f32))) 0 v4.fst.fst)
            bif (capOk (List.length v.snd.snd.snd.snd.snd.fst + List.length v5)) then
              let v6 := (IntKind.wrap IntKind.i64 (v.fst.snd.snd.snd.snd.snd.snd.fst + 1))
              let v7 := (v.snd.snd.snd.snd.snd.fst ++ v5)
              f (((), ((), ((), (((v4.fst.fst.1), (v4.fst.fst.2)), ((v.fst.snd.snd.snd.snd.1), ((), ((v6), ()))))))), (((v4.snd.fst.1), ((v4.snd.fst.snd.1), ((v4.snd.fst.snd.snd.1), ()))), (((v.snd.snd.fst.1), ((v.snd.snd.fst.snd.1), ((v.snd.snd.fst.snd.snd.1), ((), ())))), (((v.snd.snd.snd.fst.1), ((v.snd.snd.snd.fst.snd.1), ((v.snd.snd.snd.fst.snd.snd.1), ((), ())))), ((v.snd.snd.snd.snd.1), ((v7), ()))))))
            else
              none
          else
            none
      else
        let v3 := (List.set (List.replicate 1 (zero (Ty.cpx FloatKind.f32))) 0 v.fst.snd.snd.snd.fst)
        bif (capOk (List.length v.snd.snd.snd.snd.snd.fst + List.length v3)) then
          let v4 := (IntKind.wrap IntKind.i64 (v.fst.snd.snd.snd.snd.snd.snd.fst + 1))
          let v5 := (v.snd.snd.snd.snd.snd.fst ++ v3)
          f (((), ((), ((), (((v.fst.snd.snd.snd.fst.1), (v.fst.snd.snd.snd.fst.2)), ((v.fst.snd.snd.snd.snd.1), ((), ((v4), ()))))))), (((v2.snd.fst.1), ((v2.snd.fst.snd.1), ((v2.snd.fst.snd.snd.1), ()))), (((v.snd.snd.fst.1), ((v.snd.snd.fst.snd.1), ((v.snd.snd.fst.snd.snd.1), ((), ())))), (((v.snd.snd.snd.fst.1), ((v.snd.snd.snd.fst.snd.1), ((v.snd.snd.snd.fst.snd.snd.1), ((), ())))), ((v.snd.snd.snd.snd.1), ((v5), ()))))))
        else
          none
    else
      none
  else
    h (((), ((), ((), (((v.fst.snd.snd.snd.fst.1), (v.fst.snd.snd.snd.fst.2)), ((v.fst.snd.snd.snd.snd.1), ((), ())))))), (((v.snd.fst.1), ((v.snd.fst.snd.1), ((v.snd.fst.snd.snd.1), ()))), (((v.snd.snd.fst.1), ((v.snd.snd.fst.snd.1), ((v.snd.snd.fst.snd.snd.1), ((), ())))), (((v.snd.snd.snd.fst.1), ((v.snd.snd.snd.fst.snd.1), ((v.snd.snd.snd.fst.snd.snd.1), ((), ())))), ((v.snd.snd.snd.snd.1), ((v.snd.snd.snd.snd.snd.1), ()))))))
theorem evlN31_8 (k66 : I66.den → Bool) (g66 : I66.den → O66.den) (k74 : I74.den → Bool) (g74 : I74.den → O74.den) (k45 : I45.den → Bool) (g45 : I45.den → O45.den) (k75 : I75.den → Bool) (g75 : I75.den → O75.den) (k76 : I76.den → Bool) (g76 : I76.den → O76.den) (kl4 : V31_4 → Bool) (xl4 : V31_4 → X31_4) (kl8 : V31_8 → Bool) (xl8 : V31_8 → X31_8) (p74 : I74.den → Bool) (Q74 : I74.den → O74.den → Prop) (e74 : Nonempty (Ch I74 O74 p74 Q74)) (pL31_4 : V31_4 → Bool) (QL31_4 : V31_4 → X31_4 → Prop) (eL31_4 : Nonempty (ChL pL31_4 QL31_4)) (pL31_8 : V31_8 → Bool) (QL31_8 : V31_8 → X31_8 → Prop) (eL31_8 : Nonempty (ChL pL31_8 QL31_8)) (h : X31_8 → Option Unit) (f : V31_8 → Option Unit) (v : V31_8) : EBn (Γ31 k66 g66 k74 g74 k45 g45 k75 g75 k76 g76 kl4 xl4 kl8 xl8) (N31 p74 Q74 e74 pL31_4 QL31_4 eL31_4 pL31_8 QL31_8 eL31_8) lc31_8 (roundK [0, 2, 3, 4, 5, 6, 7] [] 2 [0, 2, 3, 4, 5, 6] [] (atS sh31_8 f) (endH shX31_8 h)) (mkS sh31_8 v) = qN31_8 k66 g66 k74 g74 k45 g45 k75 g75 k76 g76 kl4 xl4 kl8 xl8 p74 Q74 e74 pL31_4 QL31_4 eL31_4 pL31_8 QL31_8 eL31_8 h f v := by kernel_rfl
noncomputable def rN31 (k66 : I66.den → Bool) (g66 : I66.den → O66.den) (k74 : I74.den → Bool) (g74 : I74.den → O74.den) (k45 : I45.den → Bool) (g45 : I45.den → O45.den) (k75 : I75.den → Bool) (g75 : I75.den → O75.den) (k76 : I76.den → Bool) (g76 : I76.den → O76.den) (kl4 : V31_4 → Bool) (xl4 : V31_4 → X31_4) (kl8 : V31_8 → Bool) (xl8 : V31_8 → X31_8) (p74 : I74.den → Bool) (Q74 : I74.den → O74.den → Prop) (e74 : Nonempty (Ch I74 O74 p74 Q74)) (pL31_4 : V31_4 → Bool) (QL31_4 : V31_4 → X31_4 → Prop) (eL31_4 : Nonempty (ChL pL31_4 QL31_4)) (pL31_8 : V31_8 → Bool) (QL31_8 : V31_8 → X31_8 → Prop) (eL31_8 : Nonempty (ChL pL31_8 QL31_8)) (h : O31.den → Option Unit) (x : I31.den) : Option Unit :=
  let v0 := (k66 (((), 2, ()), x.snd))
  bif (v0) then
    let v1 := (g66 (((), 2, ()), x.snd))
    let v2 := (k66 (((), 3000, ()), v1.snd))
    bif (v2) then
      allK fun (c74_6 : Ch I74 O74 p74 Q74) =>
        let v3 := (g66 (((), 3000, ()), v1.snd))
        let v4 := (p74 (((), ()), v3.snd))
        bif (v4) then
          let v5 := (c74_6.val (((), ()), v3.snd))
          let v6 := (k66 (((), 3, ()), v5.snd))
          bif (v6) then
            let v7 := (g66 (((), 3, ()), v5.snd))
            let v8 := (k66 (((), 2, ()), v7.snd))
            bif (v8) then
              let v9 := (g66 (((), 2, ()), v7.snd))
              let v10 := (IntKind.wrap IntKind.i64 (v7.fst.fst * v9.fst.fst))
              let v11 := (IntKind.wrap IntKind.i64 (1 + v10))
              let v12 := (IntKind.wrap IntKind.i64 (2 + v1.fst.fst))
              let v13 := (IntKind.wrap IntKind.i64 (100 + v3.fst.fst))
              let v14 := (pL31_4 (((), (), (), v5.fst.fst, v11, ()), v9.snd.fst, (0, 0, 0, (), ()), (v12, 2, v13, (), ()), [], ()))
              bif (v14) then
                allK fun (cL31_4_16 : ChL pL31_4 QL31_4) =>
                  let v15 := (cL31_4_16.val (((), (), (), v5.fst.fst, v11, ()), v9.snd.fst, (0, 0, 0, (), ()), (v12, 2, v13, (), ()), [], ()))
                  let v16 := (k66 (((), 30, ()), v15.snd.fst, ()))
                  bif (v16) then
                    let v17 := (g66 (((), 30, ()), v15.snd.fst, ()))
                    bif (v17.fst.fst == 0) then
                      let v18 := (k75 (((), ()), v17.snd))
                      bif (v18) then
                        let v19 := (g75 (((), ()), v17.snd))
                        h ((((v19.fst.1), ((v15.snd.snd.snd.fst.snd.1), ((v15.snd.snd.snd.fst.snd.snd.1), ((v15.snd.snd.snd.snd.1), ())))), ()), (((v19.snd.fst.1), ((v19.snd.fst.snd.1), ((v19.snd.fst.snd.snd.1), ()))), ()))
                      else
                        none
                    else
                      bif (v17.fst.fst == 1) then
                        let v18 := (IntKind.wrap IntKind.i64 (v15.snd.snd.snd.fst.snd.fst + 1))
                        h ((((v15.snd.snd.snd.fst.1), ((v18), ((v15.snd.snd.snd.fst.snd.snd.1), ((v15.snd.snd.snd.snd.1), ())))), ()), (((v17.snd.fst.1), ((v17.snd.fst.snd.1), ((v17.snd.fst.snd.snd.1), ()))), ()))
                      else
                        bif (v17.fst.fst == 2) then
                          let v18 := (List.set (List.replicate 5 (zero (Ty.int IntKind.i64))) 0 9)
                          let v19 := (List.set v18 1 10)
                          let v20 := (List.set v19 2 100000)
                          let v21 := (List.set v20 3 100001)
                          let v22 := (List.set v21 4 (-1))
                          let v23 := (k76 (((), (), ()), v17.snd.fst, v22, ()))
                          bif (v23) then
                            let v24 := (g76 (((), (), ()), v17.snd.fst, v22, ()))
                            h ((((v15.snd.snd.snd.fst.1), ((v15.snd.snd.snd.fst.snd.1), ((v24.fst.1), ((v15.snd.snd.snd.snd.1), ())))), ()), (((v24.snd.fst.1), ((v24.snd.fst.snd.1), ((v24.snd.fst.snd.snd.1), ()))), ()))
                          else
                            none
                        else
                          bif (v17.fst.fst == 3) then
                            h ((((v15.snd.snd.snd.fst.1), ((v15.snd.snd.snd.fst.snd.1), ((v15.snd.snd.snd.fst.snd.snd.1), ((List.replicate 0 (zero (Ty.slice (Ty.cpx FloatKind.f32)))), ())))), ()), (((v17.snd.fst.1), ((v17.snd.fst.snd.1), ((v17.snd.fst.snd.snd.1), ()))), ()))
                          else
                            bif (v17.fst.fst == 4) then
                              bif (decide (0 ≤ 0) && decide (0 < (↑(List.length v15.snd.snd.snd.snd.fst) : Int))) then
                                let v18 := (List.getD v15.snd.snd.snd.snd.fst (Int.toNat 0) (zero (Ty.slice (Ty.cpx FloatKind.f32))))
                                bif (decide (0 ≤ 1) && decide (1 ≤ (↑(List.length v18) : Int)) && decide ((↑(List.length v18) : Int) ≤ (↑(List.length v18) : Int))) then
                                  bif (decide (0 ≤ 0) && decide (0 < (↑(List.length v15.snd.snd.snd.snd.fst) : Int))) then
                                    let v19 := (List.set v15.snd.snd.snd.snd.fst (Int.toNat 0) (List.drop (Int.toNat 1) (List.take (Int.toNat (↑(List.length v18) : Int)) v18)))
                                    h ((((v15.snd.snd.snd.fst.1), ((v15.snd.snd.snd.fst.snd.1), ((v15.snd.snd.snd.fst.snd.snd.1), ((v19), ())))), ()), (((v17.snd.fst.1), ((v17.snd.fst.snd.1), ((v17.snd.fst.snd.snd.1), ()))), ()))
                                  else
                                    none
                                else
                                  none
                              else
                                none
                            else
                              h ((((v15.snd.snd.snd.fst.1), ((v15.snd.snd.snd.fst.snd.1), ((v15.snd.snd.snd.fst.snd.snd.1), ((v15.snd.snd.snd.snd.1), ())))), ()), (((v17.snd.fst.1), ((v17.snd.fst.snd.1), ((v17.snd.fst.snd.snd.1), ()))), ()))
                  else
                    none
              else
                none
            else
              none
          else
            none
        else
          none
    else
      none
  else
    none
theorem evN31 (k66 : I66.den → Bool) (g66 : I66.den → O66.den) (k74 : I74.den → Bool) (g74 : I74.den → O74.den) (k45 : I45.den → Bool) (g45 : I45.den → O45.den) (k75 : I75.den → Bool) (g75 : I75.den → O75.den) (k76 : I76.den → Bool) (g76 : I76.den → O76.den) (kl4 : V31_4 → Bool) (xl4 : V31_4 → X31_4) (kl8 : V31_8 → Bool) (xl8 : V31_8 → X31_8) (p74 : I74.den → Bool) (Q74 : I74.den → O74.den → Prop) (e74 : Nonempty (Ch I74 O74 p74 Q74)) (pL31_4 : V31_4 → Bool) (QL31_4 : V31_4 → X31_4 → Prop) (eL31_4 : Nonempty (ChL pL31_4 QL31_4)) (pL31_8 : V31_8 → Bool) (QL31_8 : V31_8 → X31_8 → Prop) (eL31_8 : Nonempty (ChL pL31_8 QL31_8)) (h : O31.den → Option Unit) (x : I31.den) : callSN (Γ31 k66 g66 k74 g74 k45 g45 k75 g75 k76 g76 kl4 xl4 kl8 xl8) (N31 p74 Q74 e74 pL31_4 QL31_4 eL31_4 pL31_8 QL31_8 eL31_8) (bodyOf Try.f31) I31 O31 h x = rN31 k66 g66 k74 g74 k45 g45 k75 g75 k76 g76 kl4 xl4 kl8 xl8 p74 Q74 e74 pL31_4 QL31_4 eL31_4 pL31_8 QL31_8 eL31_8 h x := by kernel_rfl

/- "loop.example/g03321/spec.DrawWindAt" -/
noncomputable def N8 (p31 : I31.den → Bool) (Q31 : I31.den → O31.den → Prop) (e31 : Nonempty (Ch I31 O31 p31 Q31)) : NEnv := mkN [(31, sgFam true I31 O31 p31 Q31 e31)] []
noncomputable def rN8 (k30 : I30.den → Bool) (g30 : I30.den → O30.den) (k31 : I31.den → Bool) (g31 : I31.den → O31.den) (k32 : I32.den → Bool) (g32 : I32.den → O32.den) (k33 : I33.den → Bool) (g33 : I33.den → O33.den) (p31 : I31.den → Bool) (Q31 : I31.den → O31.den → Prop) (e31 : Nonempty (Ch I31 O31 p31 Q31)) (h : Den R8 → Option Unit) (x : Den A8) : Option Unit :=
  let v0 := (k30 (x, ()))
  bif (v0) then
    allK fun (c31_4 : Ch I31 O31 p31 Q31) =>
      let v1 := (g30 (x, ()))
      let v2 := (p31 (((), ()), v1.snd))
      bif (v2) then
        let v3 := (c31_4.val (((), ()), v1.snd))
        let v4 := (k32 (((), v3.fst), v3.snd))
        bif (v4) then
          let v5 := (g32 (((), v3.fst), v3.snd))
          let v6 := (k33 (((), ()), v5.snd))
          bif (v6) then
            let v7 := (g33 (((), ()), v5.snd))
            h (((v3.fst.fst.1), ((v3.fst.fst.snd.1), ((v3.fst.fst.snd.snd.1), ((v3.fst.fst.snd.snd.snd.1), ())))), ((v5.fst.1), ((v7.fst.1), ())))
          else
            none
        else
          none
      else
        none
  else
    none
theorem evN8 (k30 : I30.den → Bool) (g30 : I30.den → O30.den) (k31 : I31.den → Bool) (g31 : I31.den → O31.den) (k32 : I32.den → Bool) (g32 : I32.den → O32.den) (k33 : I33.den → Bool) (g33 : I33.den → O33.den) (p31 : I31.den → Bool) (Q31 : I31.den → O31.den → Prop) (e31 : Nonempty (Ch I31 O31 p31 Q31)) (h : Den R8 → Option Unit) (x : Den A8) : callN (Γ8 k30 g30 k31 g31 k32 g32 k33 g33) (N8 p31 Q31 e31) (bodyOf Try.f8) (decRH R8 h) (encA A8 x) [] = rN8 k30 g30 k31 g31 k32 g32 k33 g33 p31 Q31 e31 h x := by kernel_rfl

/- "loop.example/g03321/laws.FnNodesNear" -/
noncomputable def N3 (pT8 : Den A8 → Bool) (QT8 : Den A8 → Den R8 → Prop) (eT8 : Nonempty (ChT A8 R8 pT8 QT8)) : NEnv := mkN [(8, fnFam A8 R8 pT8 QT8 eT8)] []
noncomputable def rN3 (k7 : Den A7 → Bool) (g7 : Den A7 → Den R7) (k8 : Den A8 → Bool) (g8 : Den A8 → Den R8) (k9 : Den A9 → Bool) (g9 : Den A9 → Den R9) (k10 : Den A10 → Bool) (g10 : Den A10 → Den R10) (k11 : Den A11 → Bool) (g11 : Den A11 → Den R11) (k12 : Den A12 → Bool) (g12 : Den A12 → Den R12) (k13 : Den A13 → Bool) (g13 : Den A13 → Den R13) (pT8 : Den A8 → Bool) (QT8 : Den A8 → Den R8 → Prop) (eT8 : Nonempty (ChT A8 R8 pT8 QT8)) (h : Den R3 → Option Unit) (x : Den A3) : Option Unit :=
  let v0 := (k7 x)
  bif (v0) then
    let v1 := (g7 x)
    bif (v1.1) then
      h ((true), ())
    else
      allK fun (cT8_6 : ChT A8 R8 pT8 QT8) =>
        let v2 := (pT8 x)
        bif (v2) then
          let v3 := (cT8_6.val x)
          let v4 := (k9 (v3.fst, v3.snd.fst, ()))
          bif (v4) then
            let v5 := (k10 v3)
            bif (v5) then
              let v6 := (k11 (v3.fst, v3.snd.fst, ()))
              bif (v6) then
                let v7 := (g9 (v3.fst, v3.snd.fst, ()))
                let v8 := (g11 (v3.fst, v3.snd.fst, ()))
                bif (!v7.snd.fst == v8.snd.fst) then
                  h ((false), ())
                else
                  bif (!v7.snd.fst) then
                    bif (feq FloatKind.f64 v7.fst.fst 0 && feq FloatKind.f64 v7.fst.snd 0) then
                      let v9 := (g10 v3)
                      bif (!v9.snd.fst) then
                        h ((feq FloatKind.f32 v9.fst.fst 0 && feq FloatKind.f32 v9.fst.snd 0), ())
                      else
                        h ((false), ())
                    else
                      h ((false), ())
                  else
                    let v9 := (k12 (v3.fst, v7.fst, ()))
                    bif (v9) then
                      let v10 := (g12 (v3.fst, v7.fst, ()))
                      bif (v10.fst != v3.snd.fst) then
                        h ((false), ())
                      else
                        let v11 := (IntKind.wrap IntKind.i64 (Int.tdiv v3.snd.snd.fst 3600))
                        let v12 := (IntKind.wrap IntKind.i64 ((↑(List.length v3.fst.snd.snd.snd.fst) : Int) - 1))
                        bif (decide (v11 > v12)) then
                          bif (decide (v3.snd.snd.fst ≥ 0)) then
                            let v13 := (g10 v3)
                            bif (v13.snd.fst == decide (v3.snd.snd.fst ≤ 10000000)) then
                              bif (!v13.snd.fst) then
                                h ((true), ())
                              else
                                bif (decide (0 ≤ v12) && decide (v12 < (↑(List.length v3.fst.snd.snd.snd.fst) : Int))) then
                                  let v14 := (List.getD v3.fst.snd.snd.snd.fst (Int.toNat v12) (zero (Ty.slice (Ty.cpx FloatKind.f32))))
                                  bif (decide (0 ≤ v3.snd.fst) && decide (v3.snd.fst < (↑(List.length v14) : Int))) then
                                    let v15 := (List.getD v14 (Int.toNat v3.snd.fst) (zero (Ty.cpx FloatKind.f32)))
                                    let v16 := (k13 (v13.fst, v15, ()))
                                    bif (v16) then
                                      let v17 := (g13 (v13.fst, v15, ()))
                                      h ((v17.1), ())
                                    else
                                      none
                                  else
                                    none
                                else
                                  none
                            else
                              h ((false), ())
                          else
                            let v13 := (g10 v3)
                            bif (v13.snd.fst == false) then
                              bif (!v13.snd.fst) then
                                h ((true), ())
                              else
                                bif (decide (0 ≤ v12) && decide (v12 < (↑(List.length v3.fst.snd.snd.snd.fst) : Int))) then
                                  let v14 := (List.getD v3.fst.snd.snd.snd.fst (Int.toNat v12) (zero (Ty.slice (Ty.cpx FloatKind.f32))))
                                  bif (decide (0 ≤ v3.snd.fst) && decide (v3.snd.fst < (↑(List.length v14) : Int))) then
                                    let v15 := (List.getD v14 (Int.toNat v3.snd.fst) (zero (Ty.cpx FloatKind.f32)))
                                    let v16 := (k13 (v13.fst, v15, ()))
                                    bif (v16) then
                                      let v17 := (g13 (v13.fst, v15, ()))
                                      h ((v17.1), ())
                                    else
                                      none
                                  else
                                    none
                                else
                                  none
                            else
                              h ((false), ())
                        else
                          bif (decide (v3.snd.snd.fst ≥ 0)) then
                            let v13 := (g10 v3)
                            bif (v13.snd.fst == decide (v3.snd.snd.fst ≤ 10000000)) then
                              bif (!v13.snd.fst) then
                                h ((true), ())
                              else
                                bif (decide (0 ≤ v11) && decide (v11 < (↑(List.length v3.fst.snd.snd.snd.fst) : Int))) then
                                  let v14 := (List.getD v3.fst.snd.snd.snd.fst (Int.toNat v11) (zero (Ty.slice (Ty.cpx FloatKind.f32))))
                                  bif (decide (0 ≤ v3.snd.fst) && decide (v3.snd.fst < (↑(List.length v14) : Int))) then
                                    let v15 := (List.getD v14 (Int.toNat v3.snd.fst) (zero (Ty.cpx FloatKind.f32)))
                                    let v16 := (k13 (v13.fst, v15, ()))
                                    bif (v16) then
                                      let v17 := (g13 (v13.fst, v15, ()))
                                      h ((v17.1), ())
                                    else
                                      none
                                  else
                                    none
                                else
                                  none
                            else
                              h ((false), ())
                          else
                            let v13 := (g10 v3)
                            bif (v13.snd.fst == false) then
                              bif (!v13.snd.fst) then
                                h ((true), ())
                              else
                                bif (decide (0 ≤ v11) && decide (v11 < (↑(List.length v3.fst.snd.snd.snd.fst) : Int))) then
                                  let v14 := (List.getD v3.fst.snd.snd.snd.fst (Int.toNat v11) (zero (Ty.slice (Ty.cpx FloatKind.f32))))
                                  bif (decide (0 ≤ v3.snd.fst) && decide (v3.snd.fst < (↑(List.length v14) : Int))) then
                                    let v15 := (List.getD v14 (Int.toNat v3.snd.fst) (zero (Ty.cpx FloatKind.f32)))
                                    let v16 := (k13 (v13.fst, v15, ()))
                                    bif (v16) then
                                      let v17 := (g13 (v13.fst, v15, ()))
                                      h ((v17.1), ())
                                    else
                                      none
                                  else
                                    none
                                else
                                  none
                            else
                              h ((false), ())
                    else
                      none
              else
                none
            else
              none
          else
            none
        else
          none
  else
    none
theorem evN3 (k7 : Den A7 → Bool) (g7 : Den A7 → Den R7) (k8 : Den A8 → Bool) (g8 : Den A8 → Den R8) (k9 : Den A9 → Bool) (g9 : Den A9 → Den R9) (k10 : Den A10 → Bool) (g10 : Den A10 → Den R10) (k11 : Den A11 → Bool) (g11 : Den A11 → Den R11) (k12 : Den A12 → Bool) (g12 : Den A12 → Den R12) (k13 : Den A13 → Bool) (g13 : Den A13 → Den R13) (pT8 : Den A8 → Bool) (QT8 : Den A8 → Den R8 → Prop) (eT8 : Nonempty (ChT A8 R8 pT8 QT8)) (h : Den R3 → Option Unit) (x : Den A3) : callN (Γ3 k7 g7 k8 g8 k9 g9 k10 g10 k11 g11 k12 g12 k13 g13) (N3 pT8 QT8 eT8) (bodyOf Try.f3) (decRH R3 h) (encA A3 x) [] = rN3 k7 g7 k8 g8 k9 g9 k10 g10 k11 g11 k12 g12 k13 g13 pT8 QT8 eT8 h x := by kernel_rfl

end Go.Proofs.Ytmmdjajebmihhaa.AM
