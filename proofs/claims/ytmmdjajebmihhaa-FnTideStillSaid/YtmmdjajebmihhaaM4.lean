/- Texts of one proof, joined: an abstract machine for the program, its functions evaluated, plain lemmas. Conditions: those that each lemma names. -/
import Derived.Test.YtmmdjajebmihhaaM3
import Derived.Test.YtmmdjajebmihhaaM2

/- What functions whose answers are open make of their arguments; each is what its evaluation says. Printed by fn.py. -/
namespace Go.Proofs.Ytmmdjajebmihhaa.AM
open Go Go.Proofs
set_option linter.unusedVariables false
set_option maxRecDepth 100000
set_option maxHeartbeats 0

/- "loop.example/g03321/spec.l03Single" -/
noncomputable def N107 : NEnv := mkN [] []
noncomputable def rN107 (k80 : I80.den → Bool) (g80 : I80.den → O80.den) (h : O107.den → Option Unit) (x : I107.den) : Option Unit :=
  let v0 := (k80 (((), x.fst.snd), x.snd))
  bif (v0) then
    let v1 := (g80 (((), x.fst.snd), x.snd))
    bif (narrowOk v1.fst.fst) then
      bif ((convF FloatKind.f64 FloatKind.f32 v1.fst.fst).1) then
        h ((((convF FloatKind.f64 FloatKind.f32 v1.fst.fst).2), ()), (((v1.snd.fst.1), ((v1.snd.fst.snd.1), ((v1.snd.fst.snd.snd.1), ()))), ()))
      else
        none
    else
      allK fun (z6 : Bits32) =>
        h (((z6.1), ()), (((v1.snd.fst.1), ((v1.snd.fst.snd.1), ((v1.snd.fst.snd.snd.1), ()))), ()))
  else
    none
theorem evN107 (k80 : I80.den → Bool) (g80 : I80.den → O80.den) (h : O107.den → Option Unit) (x : I107.den) : callSN (Γ107 k80 g80) (N107) (bodyOf Try.f107) I107 O107 h x = rN107 k80 g80 h x := by kernel_rfl

/- "loop.example/g03321/spec.l03Air" -/
noncomputable def N90 (p107 : I107.den → Bool) (Q107 : I107.den → O107.den → Prop) (e107 : Nonempty (Ch I107 O107 p107 Q107)) : NEnv := mkN [(107, sgFam true I107 O107 p107 Q107 e107)] []
noncomputable def rN90 (k45 : I45.den → Bool) (g45 : I45.den → O45.den) (k106 : I106.den → Bool) (g106 : I106.den → O106.den) (k76 : I76.den → Bool) (g76 : I76.den → O76.den) (k107 : I107.den → Bool) (g107 : I107.den → O107.den) (p107 : I107.den → Bool) (Q107 : I107.den → O107.den → Prop) (e107 : Nonempty (Ch I107 O107 p107 Q107)) (h : O90.den → Option Unit) (x : I90.den) : Option Unit :=
  let v0 := (k45 (((), 30, ()), x.snd))
  bif (v0) then
    let v1 := (g45 (((), 30, ()), x.snd))
    bif (v1.fst.1) then
      let v2 := (k106 (((), ()), v1.snd))
      bif (v2) then
        let v3 := (g106 (((), ()), v1.snd))
        bif (narrowOk v3.fst.fst) then
          bif ((convF FloatKind.f64 FloatKind.f32 v3.fst.fst).1) then
            let v4 := (k106 (((), ()), v3.snd))
            bif (v4) then
              let v5 := (g106 (((), ()), v3.snd))
              bif (narrowOk v5.fst.fst) then
                bif ((convF FloatKind.f64 FloatKind.f32 v5.fst.fst).1) then
                  h (((((convF FloatKind.f64 FloatKind.f32 v3.fst.fst).2), ((convF FloatKind.f64 FloatKind.f32 v5.fst.fst).2)), ()), (((v5.snd.fst.1), ((v5.snd.fst.snd.1), ((v5.snd.fst.snd.snd.1), ()))), ()))
                else
                  none
              else
                allK fun (z16 : Bits32) =>
                  h (((((convF FloatKind.f64 FloatKind.f32 v3.fst.fst).2), (z16.1)), ()), (((v5.snd.fst.1), ((v5.snd.fst.snd.1), ((v5.snd.fst.snd.snd.1), ()))), ()))
            else
              none
          else
            none
        else
          allK fun (z10 : Bits32) =>
            let v4 := (k106 (((), ()), v3.snd))
            bif (v4) then
              let v5 := (g106 (((), ()), v3.snd))
              bif (narrowOk v5.fst.fst) then
                bif ((convF FloatKind.f64 FloatKind.f32 v5.fst.fst).1) then
                  h ((((z10.1), ((convF FloatKind.f64 FloatKind.f32 v5.fst.fst).2)), ()), (((v5.snd.fst.1), ((v5.snd.fst.snd.1), ((v5.snd.fst.snd.snd.1), ()))), ()))
                else
                  none
              else
                allK fun (z16 : Bits32) =>
                  h ((((z10.1), (z16.1)), ()), (((v5.snd.fst.1), ((v5.snd.fst.snd.1), ((v5.snd.fst.snd.snd.1), ()))), ()))
            else
              none
      else
        none
    else
      let v2 := (k45 (((), 20, ()), v1.snd))
      bif (v2) then
        let v3 := (g45 (((), 20, ()), v1.snd))
        bif (v3.fst.1) then
          let v4 := (List.set (List.replicate 4 (zero (Ty.int IntKind.i64))) 0 100)
          let v5 := (List.set v4 1 (-100))
          let v6 := (List.set v5 2 101)
          let v7 := (List.set v6 3 0)
          let v8 := (k76 (((), (), ()), v3.snd.fst, v7, ()))
          bif (v8) then
            allK fun (c107_12 : Ch I107 O107 p107 Q107) =>
              let v9 := (g76 (((), (), ()), v3.snd.fst, v7, ()))
              let v10 := (p107 (((), 100, ()), v9.snd.fst, ()))
              bif (v10) then
                let v11 := (c107_12.val (((), 100, ()), v9.snd.fst, ()))
                h ((((FloatKind.nearest FloatKind.f32 v9.fst.fst), (v11.fst.1)), ()), (((v11.snd.fst.1), ((v11.snd.fst.snd.1), ((v11.snd.fst.snd.snd.1), ()))), ()))
              else
                none
          else
            none
        else
          allK fun (c107_10 : Ch I107 O107 p107 Q107) =>
            let v4 := (p107 (((), 15, ()), v3.snd))
            bif (v4) then
              allK fun (c107_14 : Ch I107 O107 p107 Q107) =>
                let v5 := (c107_10.val (((), 15, ()), v3.snd))
                let v6 := (p107 (((), 15, ()), v5.snd))
                bif (v6) then
                  let v7 := (c107_14.val (((), 15, ()), v5.snd))
                  h ((((v5.fst.1), (v7.fst.1)), ()), (((v7.snd.fst.1), ((v7.snd.fst.snd.1), ((v7.snd.fst.snd.snd.1), ()))), ()))
                else
                  none
            else
              none
      else
        none
  else
    none
theorem evN90 (k45 : I45.den → Bool) (g45 : I45.den → O45.den) (k106 : I106.den → Bool) (g106 : I106.den → O106.den) (k76 : I76.den → Bool) (g76 : I76.den → O76.den) (k107 : I107.den → Bool) (g107 : I107.den → O107.den) (p107 : I107.den → Bool) (Q107 : I107.den → O107.den → Prop) (e107 : Nonempty (Ch I107 O107 p107 Q107)) (h : O90.den → Option Unit) (x : I90.den) : callSN (Γ90 k45 g45 k106 g106 k76 g76 k107 g107) (N90 p107 Q107 e107) (bodyOf Try.f90) I90 O90 h x = rN90 k45 g45 k106 g106 k76 g76 k107 g107 p107 Q107 e107 h x := by kernel_rfl

/- "loop.example/g03321/spec.l08Wind" -/
noncomputable def N74 (p90 : I90.den → Bool) (Q90 : I90.den → O90.den → Prop) (e90 : Nonempty (Ch I90 O90 p90 Q90)) : NEnv := mkN [(90, sgFam true I90 O90 p90 Q90 e90)] []
noncomputable def rN74 (k45 : I45.den → Bool) (g45 : I45.den → O45.den) (k90 : I90.den → Bool) (g90 : I90.den → O90.den) (k66 : I66.den → Bool) (g66 : I66.den → O66.den) (p90 : I90.den → Bool) (Q90 : I90.den → O90.den → Prop) (e90 : Nonempty (Ch I90 O90 p90 Q90)) (h : O74.den → Option Unit) (x : I74.den) : Option Unit :=
  let v0 := (k45 (((), 12, ()), x.snd))
  bif (v0) then
    let v1 := (g45 (((), 12, ()), x.snd))
    bif (v1.fst.1) then
      allK fun (c90_6 : Ch I90 O90 p90 Q90) =>
        let v2 := (p90 (((), ()), v1.snd))
        bif (v2) then
          let v3 := (c90_6.val (((), ()), v1.snd))
          h ((((v3.fst.fst.1), (v3.fst.fst.2)), ()), (((v3.snd.fst.1), ((v3.snd.fst.snd.1), ((v3.snd.fst.snd.snd.1), ()))), ()))
        else
          none
    else
      let v2 := (k66 (((), 129, ()), v1.snd))
      bif (v2) then
        let v3 := (g66 (((), 129, ()), v1.snd))
        let v4 := (k66 (((), 129, ()), v3.snd))
        bif (v4) then
          let v5 := (IntKind.wrap IntKind.i64 (v3.fst.fst - 64))
          let v6 := (farith BinOp.quo FloatKind.f32 (FloatKind.nearest FloatKind.f32 v5) 1090519040)
          let v7 := (g66 (((), 129, ()), v3.snd))
          let v8 := (IntKind.wrap IntKind.i64 (v7.fst.fst - 64))
          let v9 := (farith BinOp.quo FloatKind.f32 (FloatKind.nearest FloatKind.f32 v8) 1090519040)
          h ((((v6), (v9)), ()), (((v7.snd.fst.1), ((v7.snd.fst.snd.1), ((v7.snd.fst.snd.snd.1), ()))), ()))
        else
          none
      else
        none
  else
    none
theorem evN74 (k45 : I45.den → Bool) (g45 : I45.den → O45.den) (k90 : I90.den → Bool) (g90 : I90.den → O90.den) (k66 : I66.den → Bool) (g66 : I66.den → O66.den) (p90 : I90.den → Bool) (Q90 : I90.den → O90.den → Prop) (e90 : Nonempty (Ch I90 O90 p90 Q90)) (h : O74.den → Option Unit) (x : I74.den) : callSN (Γ74 k45 g45 k90 g90 k66 g66) (N74 p90 Q90 e90) (bodyOf Try.f74) I74 O74 h x = rN74 k45 g45 k90 g90 k66 g66 p90 Q90 e90 h x := by kernel_rfl

/- "loop.example/g03321/spec.l12Field" -/
noncomputable def N31 (p74 : I74.den → Bool) (Q74 : I74.den → O74.den → Prop) (e74 : Nonempty (Ch I74 O74 p74 Q74)) (pL31_4 : V31_4 → Bool) (QL31_4 : V31_4 → X31_4 → Prop) (eL31_4 : Nonempty (ChL pL31_4 QL31_4)) (pL31_8 : V31_8 → Bool) (QL31_8 : V31_8 → X31_8 → Prop) (eL31_8 : Nonempty (ChL pL31_8 QL31_8)) : NEnv := mkN [(74, sgFam true I74 O74 p74 Q74 e74)] [(4, loopXN [0, 2, 3, 4, 5] [.boxNil 3 3] 0 [0, 2, 3] [] sh31_4 shX31_4 pL31_4 QL31_4 eL31_4), (8, loopXN [0, 2, 3, 4, 5, 6, 7] [] 2 [0, 2, 3, 4, 5, 6] [] sh31_8 shX31_8 pL31_8 QL31_8 eL31_8)]
noncomputable def qN31_4 (k66 : I66.den → Bool) (g66 : I66.den → O66.den) (k74 : I74.den → Bool) (g74 : I74.den → O74.den) (k45 : I45.den → Bool) (g45 : I45.den → O45.den) (k75 : I75.den → Bool) (g75 : I75.den → O75.den) (k76 : I76.den → Bool) (g76 : I76.den → O76.den) (kl4 : V31_4 → Bool) (xl4 : V31_4 → X31_4) (kl8 : V31_8 → Bool) (xl8 : V31_8 → X31_8) (p74 : I74.den → Bool) (Q74 : I74.den → O74.den → Prop) (e74 : Nonempty (Ch I74 O74 p74 Q74)) (pL31_4 : V31_4 → Bool) (QL31_4 : V31_4 → X31_4 → Prop) (eL31_4 : Nonempty (ChL pL31_4 QL31_4)) (pL31_8 : V31_8 → Bool) (QL31_8 : V31_8 → X31_8 → Prop) (eL31_8 : Nonempty (ChL pL31_8 QL31_8)) (h : X31_4 → Option Unit) (f : V31_4 → Option Unit) (v : V31_4) : Option Unit :=
  bif (decide (v.fst.snd.snd.snd.snd.fst > 0)) then
    let v0 := (pL31_8 (((), (), (), v.fst.snd.snd.snd.fst, v.fst.snd.snd.snd.snd.fst, (), 0, ()), v.snd.fst, (v.snd.snd.fst.fst, v.snd.snd.fst.snd.fst, v.snd.snd.fst.snd.snd.fst, (), ()), (v.snd.snd.snd.fst.fst, v.snd.snd.snd.fst.snd.fst, v.snd.snd.snd.fst.snd.snd.fst, (), ()), v.snd.snd.snd.snd.fst, List.replicate 0 (zero (Ty.cpx FloatKind.f32)), ()))
    bif (v0) then
      allK fun (cL31_8_6 : ChL pL31_8 QL31_8) =>
        let v1 := (cL31_8_6.val (((), (), (), v.fst.snd.snd.snd.fst, v.fst.snd.snd.snd.snd.fst, (), 0, ()), v.snd.fst, (v.snd.snd.fst.fst, v.snd.snd.fst.snd.fst, v.snd.snd.fst.snd.snd.fst, (), ()), (v.snd.snd.snd.fst.fst, v.snd.snd.snd.fst.snd.fst, v.snd.snd.snd.fst.snd.snd.fst, (), ()), v.snd.snd.snd.snd.fst, List.replicate 0 (zero (Ty.cpx FloatKind.f32)), ()))
        let v2 := (List.set (List.replicate 1 (zero (Ty.slice (Ty.cpx FloatKind.f32)))) 0 v1.snd.snd.snd.snd.snd.fst)
        bif (capOk (List.length v1.snd.snd.snd.snd.fst + List.length v2)) then
          let v3 := (IntKind.wrap IntKind.i64 (v1.fst.snd.snd.snd.snd.fst - 1))
          let v4 := (v1.snd.snd.snd.snd.fst ++ v2)
          f (((), ((), ((), (((v1.fst.snd.snd.snd.fst.1), (v1.fst.snd.snd.snd.fst.2)), ((v3), ()))))), (((v1.snd.fst.1), ((v1.snd.fst.snd.1), ((v1.snd.fst.snd.snd.1), ()))), (((v1.snd.snd.fst.1), ((v1.snd.snd.fst.snd.1), ((v1.snd.snd.fst.snd.snd.1), ((), ())))), (((v1.snd.snd.snd.fst.1), ((v1.snd.snd.snd.fst.snd.1), ((v1.snd.snd.snd.fst.snd.snd.1), ((), ())))), ((v4), ())))))
        else
          none
    else
      none
  else
    h (((), ((), ((), ()))), (((v.snd.fst.1), ((v.snd.fst.snd.1), ((v.snd.fst.snd.snd.1), ()))), (((v.snd.snd.fst.1), ((v.snd.snd.fst.snd.1), ((v.snd.snd.fst.snd.snd.1), ((), ())))), (((v.snd.snd.snd.fst.1), ((v.snd.snd.snd.fst.snd.1), ((v.snd.snd.snd.fst.snd.snd.1), ((), ())))), ((v.snd.snd.snd.snd.1), ())))))
theorem evlN31_4 (k66 : I66.den → Bool) (g66 : I66.den → O66.den) (k74 : I74.den → Bool) (g74 : I74.den → O74.den) (k45 : I45.den → Bool) (g45 : I45.den → O45.den) (k75 : I75.den → Bool) (g75 : I75.den → O75.den) (k76 : I76.den → Bool) (g76 : I76.den → O76.den) (kl4 : V31_4 → Bool) (xl4 : V31_4 → X31_4) (kl8 : V31_8 → Bool) (xl8 : V31_8 → X31_8) (p74 : I74.den → Bool) (Q74 : I74.den → O74.den → Prop) (e74 : Nonempty (Ch I74 O74 p74 Q74)) (pL31_4 : V31_4 → Bool) (QL31_4 : V31_4 → X31_4 → Prop) (eL31_4 : Nonempty (ChL pL31_4 QL31_4)) (pL31_8 : V31_8 → Bool) (QL31_8 : V31_8 → X31_8 → Prop) (eL31_8 : Nonempty (ChL pL31_8 QL31_8)) (h : X31_4 → Option Unit) (f : V31_4 → Option Unit) (v : V31_4) : EBn (Γ31 k66 g66 k74 g74 k45 g45 k75 g75 k76 g76 kl4 xl4 kl8 xl8) (N31 p74 Q74 e74 pL31_4 QL31_4 eL31_4 pL31_8 QL31_8 eL31_8) lc31_4 (roundK [0, 2, 3, 4, 5] [.boxNil 3 3] 0 [0, 2, 3] [] (atS sh31_4 f) (endH shX31_4 h)) (mkS sh31_4 v) = qN31_4 k66 g66 k74 g74 k45 g45 k75 g75 k76 g76 kl4 xl4 kl8 xl8 p74 Q74 e74 pL31_4 QL31_4 eL31_4 pL31_8 QL31_8 eL31_8 h f v := by kernel_rfl
noncomputable def qN31_8 (k66 : I66.den → Bool) (g66 : I66.den → O66.den) (k74 : I74.den → Bool) (g74 : I74.den → O74.den) (k45 : I45.den → Bool) (g45 : I45.den → O45.den) (k75 : I75.den → Bool) (g75 : I75.den → O75.den) (k76 : I76.den → Bool) (g76 : I76.den → O76.den) (kl4 : V31_4 → Bool) (xl4 : V31_4 → X31_4) (kl8 : V31_8 → Bool) (xl8 : V31_8 → X31_8) (p74 : I74.den → Bool) (Q74 : I74.den → O74.den → Prop) (e74 : Nonempty (Ch I74 O74 p74 Q74)) (pL31_4 : V31_4 → Bool) (QL31_4 : V31_4 → X31_4 → Prop) (eL31_4 : Nonempty (ChL pL31_4 QL31_4)) (pL31_8 : V31_8 → Bool) (QL31_8 : V31_8 → X31_8 → Prop) (eL31_8 : Nonempty (ChL pL31_8 QL31_8)) (h : X31_8 → Option Unit) (f : V31_8 → Option Unit) (v : V31_8) : Option Unit :=
  let v0 := (IntKind.wrap IntKind.i64 (v.snd.snd.snd.fst.fst * v.snd.snd.snd.fst.snd.fst))
  bif (decide (v.fst.snd.snd.snd.snd.snd.snd.fst < v0)) then
    let v1 := (k45 (((), 3, ()), v.snd.fst, ()))
    bif (v1) then
      let v2 := (g45 (((), 3, ()), v.snd.fst, ()))
      bif (v2.fst.1) then
        allK fun (c74_8 : Ch I74 O74 p74 Q74) =>
          let v3 := (p74 (((), ()), v2.snd))
          bif (v3) then
            let v4 := (c74_8.val (((), ()), v2.snd))
            let v5 := (List.set (List.replicate 1 (zero (Ty.cpx FloatKind.f32))) 0 v4.fst.fst)
            bif (capOk (List.length v.snd.snd.snd.snd.snd.fst + List.length v5)) then
              let v6 := (IntKind.wrap IntKind.i64 (v.fst.snd.snd.snd.snd.snd.snd.fst + 1))
              let v7 := (v.snd.snd.snd.snd.snd.fst ++ v5)
              f (((), ((), ((), (((v4.fst.fst.1), (v4.fst.fst.2)), ((v.fst.snd.snd.snd.snd.1), ((), ((v6), ()))))))), (((v4.snd.fst.1), ((v4.snd.fst.snd.1), ((v4.snd.fst.snd.snd.1), ()))), (((v.snd.snd.fst.1), ((v.snd.snd.fst.snd.1), ((v.snd.snd.fst.snd.snd.1), ((), ())))), (((v.snd.snd.snd.fst.1), ((v.snd.snd.snd.fst.snd.1), ((v.snd.snd.snd.fst.snd.snd.1), ((), ())))), ((v.snd.snd.snd.snd.1), ((v7), ()))))))
            else
              none
          else
            none
      else
        let v3 := (List.set (List.replicate 1 (zero (Ty.cpx FloatKind.f32))) 0 v.fst.snd.snd.snd.fst)
        bif (capOk (List.length v.snd.snd.snd.snd.snd.fst + List.length v3)) then
          let v4 := (IntKind.wrap IntKind.i64 (v.fst.snd.snd.snd.snd.snd.snd.fst + 1))
          let v5 := (v.snd.snd.snd.snd.snd.fst ++ v3)
          f (((), ((), ((), (((v.fst.snd.snd.snd.fst.1), (v.fst.snd.snd.snd.fst.2)), ((v.fst.snd.snd.snd.snd.1), ((), ((v4), ()))))))), (((v2.snd.fst.1), ((v2.snd.fst.snd.1), ((v2.snd.fst.snd.snd.1), ()))), (((v.snd.snd.fst.1), ((v.snd.snd.fst.snd.1), ((v.snd.snd.fst.snd.snd.1), ((), ())))), (((v.snd.snd.snd.fst.1), ((v.snd.snd.snd.fst.snd.1), ((v.snd.snd.snd.fst.snd.snd.1), ((), ())))), ((v.snd.snd.snd.snd.1), ((v5), ()))))))
        else
          none
    else
      none
  else
    h (((), ((), ((), (((v.fst.snd.snd.snd.fst.1), (v.fst.snd.snd.snd.fst.2)), ((v.fst.snd.snd.snd.snd.1), ((), ())))))), (((v.snd.fst.1), ((v.snd.fst.snd.1), ((v.snd.fst.snd.snd.1), ()))), (((v.snd.snd.fst.1), ((v.snd.snd.fst.snd.1), ((v.snd.snd.fst.snd.snd.1), ((), ())))), (((v.snd.snd.snd.fst.1), ((v.snd.snd.snd.fst.snd.1), ((v.snd.snd.snd.fst.snd.snd.1), ((), ())))), ((v.snd.snd.snd.snd.1), ((v.snd.snd.snd.snd.snd.1), ()))))))
theorem evlN31_8 (k66 : I66.den → Bool) (g66 : I66.den → O66.den) (k74 : I74.den → Bool) (g74 : I74.den → O74.den) (k45 : I45.den → Bool) (g45 : I45.den → O45.den) (k75 : I75.den → Bool) (g75 : I75.den → O75.den) (k76 : I76.den → Bool) (g76 : I76.den → O76.den) (kl4 : V31_4 → Bool) (xl4 : V31_4 → X31_4) (kl8 : V31_8 → Bool) (xl8 : V31_8 → X31_8) (p74 : I74.den → Bool) (Q74 : I74.den → O74.den → Prop) (e74 : Nonempty (Ch I74 O74 p74 Q74)) (pL31_4 : V31_4 → Bool) (QL31_4 : V31_4 → X31_4 → Prop) (eL31_4 : Nonempty (ChL pL31_4 QL31_4)) (pL31_8 : V31_8 → Bool) (QL31_8 : V31_8 → X31_8 → Prop) (eL31_8 : Nonempty (ChL pL31_8 QL31_8)) (h : X31_8 → Option Unit) (f : V31_8 → Option Unit) (v : V31_8) : EBn (Γ31 k66 g66 k74 g74 k45 g45 k75 g75 k76 g76 kl4 xl4 kl8 xl8) (N31 p74 Q74 e74 pL31_4 QL31_4 eL31_4 pL31_8 QL31_8 eL31_8) lc31_8 (roundK [0, 2, 3, 4, 5, 6, 7] [] 2 [0, 2, 3, 4, 5, 6] [] (atS sh31_8 f) (endH shX31_8 h)) (mkS sh31_8 v) = qN31_8 k66 g66 k74 g74 k45 g45 k75 g75 k76 g76 kl4 xl4 kl8 xl8 p74 Q74 e74 pL31_4 QL31_4 eL31_4 pL31_8 QL31_8 eL31_8 h f v := by kernel_rfl
noncomputable def rN31 (k66 : I66.den → Bool) (g66 : I66.den → O66.den) (k74 : I74.den → Bool) (g74 : I74.den → O74.den) (k45 : I45.den → Bool) (g45 : I45.den → O45.den) (k75 : I75.den → Bool) (g75 : I75.den → O75.den) (k76 : I76.den → Bool) (g76 : I76.den → O76.den) (kl4 : V31_4 → Bool) (xl4 : V31_4 → X31_4) (kl8 : V31_8 → Bool) (xl8 : V31_8 → X31_8) (p74 : I74.den → Bool) (Q74 : I74.den → O74.den → Prop) (e74 : Nonempty (Ch I74 O74 p74 Q74)) (pL31_4 : V31_4 → Bool) (QL31_4 : V31_4 → X31_4 → Prop) (eL31_4 : Nonempty (ChL pL31_4 QL31_4)) (pL31_8 : V31_8 → Bool) (QL31_8 : V31_8 → X31_8 → Prop) (eL31_8 : Nonempty (ChL pL31_8 QL31_8)) (h : O31.den → Option Unit) (x : I31.den) : Option Unit :=
  let v0 := (k66 (((), 2, ()), x.snd))
  bif (v0) then
    let v1 := (g66 (((), 2, ()), x.snd))
    let v2 := (k66 (((), 3000, ()), v1.snd))
    bif (v2) then
      allK fun (c74_6 : Ch I74 O74 p74 Q74) =>
        let v3 := (g66 (((), 3000, ()), v1.snd))
        let v4 := (p74 (((), ()), v3.snd))
        bif (v4) then
          let v5 := (c74_6.val (((), ()), v3.snd))
          let v6 := (k66 (((), 3, ()), v5.snd))
          bif (v6) then
            let v7 := (g66 (((), 3, ()), v5.snd))
            let v8 := (k66 (((), 2, ()), v7.snd))
            bif (v8) then
              let v9 := (g66 (((), 2, ()), v7.snd))
              let v10 := (IntKind.wrap IntKind.i64 (v7.fst.fst * v9.fst.fst))
              let v11 := (IntKind.wrap IntKind.i64 (1 + v10))
              let v12 := (IntKind.wrap IntKind.i64 (2 + v1.fst.fst))
              let v13 := (IntKind.wrap IntKind.i64 (100 + v3.fst.fst))
              let v14 := (pL31_4 (((), (), (), v5.fst.fst, v11, ()), v9.snd.fst, (0, 0, 0, (), ()), (v12, 2, v13, (), ()), [], ()))
              bif (v14) then
                allK fun (cL31_4_16 : ChL pL31_4 QL31_4) =>
                  let v15 := (cL31_4_16.val (((), (), (), v5.fst.fst, v11, ()), v9.snd.fst, (0, 0, 0, (), ()), (v12, 2, v13, (), ()), [], ()))
                  let v16 := (k66 (((), 30, ()), v15.snd.fst, ()))
                  bif (v16) then
                    let v17 := (g66 (((), 30, ()), v15.snd.fst, ()))
                    bif (v17.fst.fst == 0) then
                      let v18 := (k75 (((), ()), v17.snd))
                      bif (v18) then
                        let v19 := (g75 (((), ()), v17.snd))
                        h ((((v19.fst.1), ((v15.snd.snd.snd.fst.snd.1), ((v15.snd.snd.snd.fst.snd.snd.1), ((v15.snd.snd.snd.snd.1), ())))), ()), (((v19.snd.fst.1), ((v19.snd.fst.snd.1), ((v19.snd.fst.snd.snd.1), ()))), ()))
                      else
                        none
                    else
                      bif (v17.fst.fst == 1) then
                        let v18 := (IntKind.wrap IntKind.i64 (v15.snd.snd.snd.fst.snd.fst + 1))
                        h ((((v15.snd.snd.snd.fst.1), ((v18), ((v15.snd.snd.snd.fst.snd.snd.1), ((v15.snd.snd.snd.snd.1), ())))), ()), (((v17.snd.fst.1), ((v17.snd.fst.snd.1), ((v17.snd.fst.snd.snd.1), ()))), ()))
                      else
                        bif (v17.fst.fst == 2) then
                          let v18 := (List.set (List.replicate 5 (zero (Ty.int IntKind.i64))) 0 9)
                          let v19 := (List.set v18 1 10)
                          let v20 := (List.set v19 2 100000)
                          let v21 := (List.set v20 3 100001)
                          let v22 := (List.set v21 4 (-1))
                          let v23 := (k76 (((), (), ()), v17.snd.fst, v22, ()))
                          bif (v23) then
                            let v24 := (g76 (((), (), ()), v17.snd.fst, v22, ()))
                            h ((((v15.snd.snd.snd.fst.1), ((v15.snd.snd.snd.fst.snd.1), ((v24.fst.1), ((v15.snd.snd.snd.snd.1), ())))), ()), (((v24.snd.fst.1), ((v24.snd.fst.snd.1), ((v24.snd.fst.snd.snd.1), ()))), ()))
                          else
                            none
                        else
                          bif (v17.fst.fst == 3) then
                            h ((((v15.snd.snd.snd.fst.1), ((v15.snd.snd.snd.fst.snd.1), ((v15.snd.snd.snd.fst.snd.snd.1), ((List.replicate 0 (zero (Ty.slice (Ty.cpx FloatKind.f32)))), ())))), ()), (((v17.snd.fst.1), ((v17.snd.fst.snd.1), ((v17.snd.fst.snd.snd.1), ()))), ()))
                          else
                            bif (v17.fst.fst == 4) then
                              bif (decide (0 ≤ 0) && decide (0 < (↑(List.length v15.snd.snd.snd.snd.fst) : Int))) then
                                let v18 := (List.getD v15.snd.snd.snd.snd.fst (Int.toNat 0) (zero (Ty.slice (Ty.cpx FloatKind.f32))))
                                bif (decide (0 ≤ 1) && decide (1 ≤ (↑(List.length v18) : Int)) && decide ((↑(List.length v18) : Int) ≤ (↑(List.length v18) : Int))) then
                                  bif (decide (0 ≤ 0) && decide (0 < (↑(List.length v15.snd.snd.snd.snd.fst) : Int))) then
                                    let v19 := (List.set v15.snd.snd.snd.snd.fst (Int.toNat 0) (List.drop (Int.toNat 1) (List.take (Int.toNat (↑(List.length v18) : Int)) v18)))
                                    h ((((v15.snd.snd.snd.fst.1), ((v15.snd.snd.snd.fst.snd.1), ((v15.snd.snd.snd.fst.snd.snd.1), ((v19), ())))), ()), (((v17.snd.fst.1), ((v17.snd.fst.snd.1), ((v17.snd.fst.snd.snd.1), ()))), ()))
                                  else
                                    none
                                else
                                  none
                              else
                                none
                            else
                              h ((((v15.snd.snd.snd.fst.1), ((v15.snd.snd.snd.fst.snd.1), ((v15.snd.snd.snd.fst.snd.snd.1), ((v15.snd.snd.snd.snd.1), ())))), ()), (((v17.snd.fst.1), ((v17.snd.fst.snd.1), ((v17.snd.fst.snd.snd.1), ()))), ()))
                  else
                    none
              else
                none
            else
              none
          else
            none
        else
          none
    else
      none
  else
    none
theorem evN31 (k66 : I66.den → Bool) (g66 : I66.den → O66.den) (k74 : I74.den → Bool) (g74 : I74.den → O74.den) (k45 : I45.den → Bool) (g45 : I45.den → O45.den) (k75 : I75.den → Bool) (g75 : I75.den → O75.den) (k76 : I76.den → Bool) (g76 : I76.den → O76.den) (kl4 : V31_4 → Bool) (xl4 : V31_4 → X31_4) (kl8 : V31_8 → Bool) (xl8 : V31_8 → X31_8) (p74 : I74.den → Bool) (Q74 : I74.den → O74.den → Prop) (e74 : Nonempty (Ch I74 O74 p74 Q74)) (pL31_4 : V31_4 → Bool) (QL31_4 : V31_4 → X31_4 → Prop) (eL31_4 : Nonempty (ChL pL31_4 QL31_4)) (pL31_8 : V31_8 → Bool) (QL31_8 : V31_8 → X31_8 → Prop) (eL31_8 : Nonempty (ChL pL31_8 QL31_8)) (h : O31.den → Option Unit) (x : I31.den) : callSN (Γ31 k66 g66 k74 g74 k45 g45 k75 g75 k76 g76 kl4 xl4 kl8 xl8) (N31 p74 Q74 e74 pL31_4 QL31_4 eL31_4 pL31_8 QL31_8 eL31_8) (bodyOf Try.f31) I31 O31 h x = rN31 k66 g66 k74 g74 k45 g45 k75 g75 k76 g76 kl4 xl4 kl8 xl8 p74 Q74 e74 pL31_4 QL31_4 eL31_4 pL31_8 QL31_8 eL31_8 h x := by kernel_rfl

/- "loop.example/g03321/spec.DrawWindAt" -/
noncomputable def N8 (p31 : I31.den → Bool) (Q31 : I31.den → O31.den → Prop) (e31 : Nonempty (Ch I31 O31 p31 Q31)) : NEnv := mkN [(31, sgFam true I31 O31 p31 Q31 e31)] []
noncomputable def rN8 (k30 : I30.den → Bool) (g30 : I30.den → O30.den) (k31 : I31.den → Bool) (g31 : I31.den → O31.den) (k32 : I32.den → Bool) (g32 : I32.den → O32.den) (k33 : I33.den → Bool) (g33 : I33.den → O33.den) (p31 : I31.den → Bool) (Q31 : I31.den → O31.den → Prop) (e31 : Nonempty (Ch I31 O31 p31 Q31)) (h : Den R8 → Option Unit) (x : Den A8) : Option Unit :=
  let v0 := (k30 (x, ()))
  bif (v0) then
    allK fun (c31_4 : Ch I31 O31 p31 Q31) =>
      let v1 := (g30 (x, ()))
      let v2 := (p31 (((), ()), v1.snd))
      bif (v2) then
        let v3 := (c31_4.val (((), ()), v1.snd))
        let v4 := (k32 (((), v3.fst), v3.snd))
        bif (v4) then
          let v5 := (g32 (((), v3.fst), v3.snd))
          let v6 := (k33 (((), ()), v5.snd))
          bif (v6) then
            let v7 := (g33 (((), ()), v5.snd))
            h (((v3.fst.fst.1), ((v3.fst.fst.snd.1), ((v3.fst.fst.snd.snd.1), ((v3.fst.fst.snd.snd.snd.1), ())))), ((v5.fst.1), ((v7.fst.1), ())))
          else
            none
        else
          none
      else
        none
  else
    none
theorem evN8 (k30 : I30.den → Bool) (g30 : I30.den → O30.den) (k31 : I31.den → Bool) (g31 : I31.den → O31.den) (k32 : I32.den → Bool) (g32 : I32.den → O32.den) (k33 : I33.den → Bool) (g33 : I33.den → O33.den) (p31 : I31.den → Bool) (Q31 : I31.den → O31.den → Prop) (e31 : Nonempty (Ch I31 O31 p31 Q31)) (h : Den R8 → Option Unit) (x : Den A8) : callN (Γ8 k30 g30 k31 g31 k32 g32 k33 g33) (N8 p31 Q31 e31) (bodyOf Try.f8) (decRH R8 h) (encA A8 x) [] = rN8 k30 g30 k31 g31 k32 g32 k33 g33 p31 Q31 e31 h x := by kernel_rfl

/- "loop.example/g03321/laws.FnNodesNear" -/
noncomputable def N3 (pT8 : Den A8 → Bool) (QT8 : Den A8 → Den R8 → Prop) (eT8 : Nonempty (ChT A8 R8 pT8 QT8)) : NEnv := mkN [(8, fnFam A8 R8 pT8 QT8 eT8)] []
noncomputable def rN3 (k7 : Den A7 → Bool) (g7 : Den A7 → Den R7) (k8 : Den A8 → Bool) (g8 : Den A8 → Den R8) (k9 : Den A9 → Bool) (g9 : Den A9 → Den R9) (k10 : Den A10 → Bool) (g10 : Den A10 → Den R10) (k11 : Den A11 → Bool) (g11 : Den A11 → Den R11) (k12 : Den A12 → Bool) (g12 : Den A12 → Den R12) (k13 : Den A13 → Bool) (g13 : Den A13 → Den R13) (pT8 : Den A8 → Bool) (QT8 : Den A8 → Den R8 → Prop) (eT8 : Nonempty (ChT A8 R8 pT8 QT8)) (h : Den R3 → Option Unit) (x : Den A3) : Option Unit :=
  let v0 := (k7 x)
  bif (v0) then
    let v1 := (g7 x)
    bif (v1.1) then
      h ((true), ())
    else
      allK fun (cT8_6 : ChT A8 R8 pT8 QT8) =>
        let v2 := (pT8 x)
        bif (v2) then
          let v3 := (cT8_6.val x)
          let v4 := (k9 (v3.fst, v3.snd.fst, ()))
          bif (v4) then
            let v5 := (k10 v3)
            bif (v5) then
              let v6 := (k11 (v3.fst, v3.snd.fst, ()))
              bif (v6) then
                let v7 := (g9 (v3.fst, v3.snd.fst, ()))
                let v8 := (g11 (v3.fst, v3.snd.fst, ()))
                bif (!v7.snd.fst == v8.snd.fst) then
                  h ((false), ())
                else
                  bif (!v7.snd.fst) then
                    bif (feq FloatKind.f64 v7.fst.fst 0 && feq FloatKind.f64 v7.fst.snd 0) then
                      let v9 := (g10 v3)
                      bif (!v9.snd.fst) then
                        h ((feq FloatKind.f32 v9.fst.fst 0 && feq FloatKind.f32 v9.fst.snd 0), ())
                      else
                        h ((false), ())
                    else
                      h ((false), ())
                  else
                    let v9 := (k12 (v3.fst, v7.fst, ()))
                    bif (v9) then
                      let v10 := (g12 (v3.fst, v7.fst, ()))
                      bif (v10.fst != v3.snd.fst) then
                        h ((false), ())
                      else
                        let v11 := (IntKind.wrap IntKind.i64 (Int.tdiv v3.snd.snd.fst 3600))
                        let v12 := (IntKind.wrap IntKind.i64 ((↑(List.length v3.fst.snd.snd.snd.fst) : Int) - 1))
                        bif (decide (v11 > v12)) then
                          bif (decide (v3.snd.snd.fst ≥ 0)) then
                            let v13 := (g10 v3)
                            bif (v13.snd.fst == decide (v3.snd.snd.fst ≤ 10000000)) then
                              bif (!v13.snd.fst) then
                                h ((true), ())
                              else
                                bif (decide (0 ≤ v12) && decide (v12 < (↑(List.length v3.fst.snd.snd.snd.fst) : Int))) then
                                  let v14 := (List.getD v3.fst.snd.snd.snd.fst (Int.toNat v12) (zero (Ty.slice (Ty.cpx FloatKind.f32))))
                                  bif (decide (0 ≤ v3.snd.fst) && decide (v3.snd.fst < (↑(List.length v14) : Int))) then
                                    let v15 := (List.getD v14 (Int.toNat v3.snd.fst) (zero (Ty.cpx FloatKind.f32)))
                                    let v16 := (k13 (v13.fst, v15, ()))
                                    bif (v16) then
                                      let v17 := (g13 (v13.fst, v15, ()))
                                      h ((v17.1), ())
                                    else
                                      none
                                  else
                                    none
                                else
                                  none
                            else
                              h ((false), ())
                          else
                            let v13 := (g10 v3)
                            bif (v13.snd.fst == false) then
                              bif (!v13.snd.fst) then
                                h ((true), ())
                              else
                                bif (decide (0 ≤ v12) && decide (v12 < (↑(List.length v3.fst.snd.snd.snd.fst) : Int))) then
                                  let v14 := (List.getD v3.fst.snd.snd.snd.fst (Int.toNat v12) (zero (Ty.slice (Ty.cpx FloatKind.f32))))
                                  bif (decide (0 ≤ v3.snd.fst) && decide (v3.snd.fst < (↑(List.length v14) : Int))) then
                                    let v15 := (List.getD v14 (Int.toNat v3.snd.fst) (zero (Ty.cpx FloatKind.f32)))
                                    let v16 := (k13 (v13.fst, v15, ()))
                                    bif (v16) then
                                      let v17 := (g13 (v13.fst, v15, ()))
                                      h ((v17.1), ())
                                    else
                                      none
                                  else
                                    none
                                else
                                  none
                            else
                              h ((false), ())
                        else
                          bif (decide (v3.snd.snd.fst ≥ 0)) then
                            let v13 := (g10 v3)
                            bif (v13.snd.fst == decide (v3.snd.snd.fst ≤ 10000000)) then
                              bif (!v13.snd.fst) then
                                h ((true), ())
                              else
                                bif (decide (0 ≤ v11) && decide (v11 < (↑(List.length v3.fst.snd.snd.snd.fst) : Int))) then
                                  let v14 := (List.getD v3.fst.snd.snd.snd.fst (Int.toNat v11) (zero (Ty.slice (Ty.cpx FloatKind.f32))))
                                  bif (decide (0 ≤ v3.snd.fst) && decide (v3.snd.fst < (↑(List.length v14) : Int))) then
                                    let v15 := (List.getD v14 (Int.toNat v3.snd.fst) (zero (Ty.cpx FloatKind.f32)))
                                    let v16 := (k13 (v13.fst, v15, ()))
                                    bif (v16) then
                                      let v17 := (g13 (v13.fst, v15, ()))
                                      h ((v17.1), ())
                                    else
                                      none
                                  else
                                    none
                                else
                                  none
                            else
                              h ((false), ())
                          else
                            let v13 := (g10 v3)
                            bif (v13.snd.fst == false) then
                              bif (!v13.snd.fst) then
                                h ((true), ())
                              else
                                bif (decide (0 ≤ v11) && decide (v11 < (↑(List.length v3.fst.snd.snd.snd.fst) : Int))) then
                                  let v14 := (List.getD v3.fst.snd.snd.snd.fst (Int.toNat v11) (zero (Ty.slice (Ty.cpx FloatKind.f32))))
                                  bif (decide (0 ≤ v3.snd.fst) && decide (v3.snd.fst < (↑(List.length v14) : Int))) then
                                    let v15 := (List.getD v14 (Int.toNat v3.snd.fst) (zero (Ty.cpx FloatKind.f32)))
                                    let v16 := (k13 (v13.fst, v15, ()))
                                    bif (v16) then
                                      let v17 := (g13 (v13.fst, v15, ()))
                                      h ((v17.1), ())
                                    else
                                      none
                                  else
                                    none
                                else
                                  none
                            else
                              h ((false), ())
                    else
                      none
              else
                none
            else
              none
          else
            none
        else
          none
  else
    none
theorem evN3 (k7 : Den A7 → Bool) (g7 : Den A7 → Den R7) (k8 : Den A8 → Bool) (g8 : Den A8 → Den R8) (k9 : Den A9 → Bool) (g9 : Den A9 → Den R9) (k10 : Den A10 → Bool) (g10 : Den A10 → Den R10) (k11 : Den A11 → Bool) (g11 : Den A11 → Den R11) (k12 : Den A12 → Bool) (g12 : Den A12 → Den R12) (k13 : Den A13 → Bool) (g13 : Den A13 → Den R13) (pT8 : Den A8 → Bool) (QT8 : Den A8 → Den R8 → Prop) (eT8 : Nonempty (ChT A8 R8 pT8 QT8)) (h : Den R3 → Option Unit) (x : Den A3) : callN (Γ3 k7 g7 k8 g8 k9 g9 k10 g10 k11 g11 k12 g12 k13 g13) (N3 pT8 QT8 eT8) (bodyOf Try.f3) (decRH R3 h) (encA A3 x) [] = rN3 k7 g7 k8 g8 k9 g9 k10 g10 k11 g11 k12 g12 k13 g13 pT8 QT8 eT8 h x := by kernel_rfl

end Go.Proofs.Ytmmdjajebmihhaa.AM

/- Plainly: the draws of winds: they give something, whatever the language leaves open. Conditions: those that each lemma names. -/
namespace Go.Proofs.Ytmmdjajebmihhaa.AM
open Go Go.Proofs
set_option linter.unusedVariables false

/-! ## Draws, by what they give -/

def Pst {α : Type} (o : Option α) (P : α → Prop) : Prop := ∃ y, o = some y ∧ P y
theorem pst_some {α : Type} {y : α} {P : α → Prop} (h : P y) : Pst (some y) P := ⟨y, rfl, h⟩
theorem pst_t {α : Type} {c : Bool} {a b : Option α} {P : α → Prop} (hc : c = true) (h : Pst a P) : Pst (bif c then a else b) P := by rw [hc]; exact h
theorem pst_b {α : Type} {c : Bool} {a b : Option α} {P : α → Prop} (h1 : c = true → Pst a P) (h2 : c = false → Pst b P) : Pst (bif c then a else b) P := by
  cases c
  · exact h2 rfl
  · exact h1 rfl
theorem pst_k {α : Type} {o : Option α} {P : α → Prop} (h : Pst o P) : o.isSome = true := by obtain ⟨y, e, _⟩ := h; rw [e]; rfl
theorem pst_g {α : Type} {o : Option α} {P : α → Prop} (z : α) (h : Pst o P) : P (o.getD z) := by obtain ⟨y, e, h⟩ := h; rw [e]; exact h
theorem all_t {c : Bool} {a b : Option Unit} (hc : c = true) (h : a = some ()) : (bif c then a else b) = some () := by rw [hc]; exact h
theorem all_b {c : Bool} {a b : Option Unit} (h1 : c = true → a = some ()) (h2 : c = false → b = some ()) : (bif c then a else b) = some () := by
  cases c
  · exact h2 rfl
  · exact h1 rfl


theorem odd_ok (x : I106.den) (h : CurOk x.2.1) : Pst (F106 x) fun y => CurOk y.2.1 := by
  unfold F106 r106
  dsimp only
  (repeat' (with_reducible first | refine pst_some ?_ | refine pst_t (K66_ok _ (by (repeat ((try dsimp only); first | assumption | (with_reducible first | apply G66_cur | apply G45_cur))))) ?_ | refine pst_t (K45_ok _ (by (repeat ((try dsimp only); first | assumption | (with_reducible first | apply G66_cur | apply G45_cur))))) ?_ | refine pst_b (fun _ => ?_) (fun _ => ?_))) <;> (repeat ((try dsimp only); first | assumption | (with_reducible first | apply G66_cur | apply G45_cur)))
theorem K106_ok (x : I106.den) (h : CurOk x.2.1) : K106 x = true := pst_k (odd_ok x h)
theorem G106_cur (x : I106.den) (h : CurOk x.2.1) : CurOk (G106 x).2.1 := pst_g _ (odd_ok x h)

theorem real_ok (x : I80.den) (h : CurOk x.2.1) : Pst (F80 x) fun y => CurOk y.2.1 := by
  unfold F80 r80
  dsimp only
  refine pst_t (K45_ok _ (by (repeat ((try dsimp only); first | assumption | (with_reducible first | apply G106_cur | apply G66_cur | apply G45_cur))))) ?_
  refine pst_b (fun _ => ?_) (fun _ => ?_)
  · refine pst_t (K106_ok _ (by (repeat ((try dsimp only); first | assumption | (with_reducible first | apply G106_cur | apply G66_cur | apply G45_cur))))) ?_
    exact pst_some (by (repeat ((try dsimp only); first | assumption | (with_reducible first | apply G106_cur | apply G66_cur | apply G45_cur))))
  · (repeat' (with_reducible first | refine pst_some ?_ | refine pst_t (K66_ok _ (by (repeat ((try dsimp only); first | assumption | (with_reducible first | apply G106_cur | apply G66_cur | apply G45_cur))))) ?_ | refine pst_t (K45_ok _ (by (repeat ((try dsimp only); first | assumption | (with_reducible first | apply G106_cur | apply G66_cur | apply G45_cur))))) ?_ | refine pst_b (fun _ => ?_) (fun _ => ?_))) <;> (repeat ((try dsimp only); first | assumption | (with_reducible first | apply G106_cur | apply G66_cur | apply G45_cur)))
theorem K80_ok (x : I80.den) (h : CurOk x.2.1) : K80 x = true := pst_k (real_ok x h)
theorem G80_cur (x : I80.den) (h : CurOk x.2.1) : CurOk (G80 x).2.1 := pst_g _ (real_ok x h)

theorem number_ok (x : I75.den) (h : CurOk x.2.1) : Pst (F75 x) fun y => CurOk y.2.1 := by
  unfold F75 r75
  dsimp only
  refine pst_t (K66_ok _ (by (repeat ((try dsimp only); first | assumption | (with_reducible first | apply G80_cur | apply G106_cur | apply G66_cur | apply G45_cur))))) ?_
  refine pst_b (fun _ => ?_) (fun _ => ?_)
  · refine pst_t (K76_ok _ (by (repeat ((try dsimp only); first | assumption | (with_reducible first | apply G80_cur | apply G106_cur | apply G66_cur | apply G45_cur)))) (by simp)) ?_
    exact pst_some (G76_cur _ (by (repeat ((try dsimp only); first | assumption | (with_reducible first | apply G80_cur | apply G106_cur | apply G66_cur | apply G45_cur)))) (by simp))
  · (repeat' (with_reducible first | refine pst_some ?_ | refine pst_t (K66_ok _ (by (repeat ((try dsimp only); first | assumption | (with_reducible first | apply G80_cur | apply G106_cur | apply G66_cur | apply G45_cur))))) ?_ | refine pst_t (K45_ok _ (by (repeat ((try dsimp only); first | assumption | (with_reducible first | apply G80_cur | apply G106_cur | apply G66_cur | apply G45_cur))))) ?_ | refine pst_b (fun _ => ?_) (fun _ => ?_))) <;> (repeat ((try dsimp only); first | assumption | (with_reducible first | apply G80_cur | apply G106_cur | apply G66_cur | apply G45_cur)))
theorem K75_ok (x : I75.den) (h : CurOk x.2.1) : K75 x = true := pst_k (number_ok x h)
theorem G75_cur (x : I75.den) (h : CurOk x.2.1) : CurOk (G75 x).2.1 := pst_g _ (number_ok x h)

/-! ## What is known ahead of a draw -/

def curB (c : List Int × Int × Int × Unit) : Bool := decide (0 ≤ c.2.1) && decide (c.1.length ≤ 1048576)
theorem curB_iff {c : List Int × Int × Int × Unit} : curB c = true ↔ CurOk c := by unfold curB CurOk; simp
def curZ : List Int × Int × Int × Unit := ([], 0, 0, ())
theorem curZ_ok : CurOk curZ := ⟨Int.le_refl 0, Nat.zero_le _⟩

/-! ## A single -/

def p107 (x : I107.den) : Bool := curB x.2.1
def Q107 (x : I107.den) (y : O107.den) : Prop := CurOk y.2.1
theorem e107 : Nonempty (Ch I107 O107 p107 Q107) := ⟨⟨fun _ => ((0, ()), (curZ, ())), fun _ _ => curZ_ok⟩⟩
theorem fam107 : FamOK Try.prog 107 (sgFam true I107 O107 p107 Q107 e107) := sgN_ok env107 (N := N107) (mkN_ok trivial) is107 noNLoops fun x hx k hk => by
  have h : CurOk x.2.1 := curB_iff.1 hx
  refine Eq.trans (evN107 _ _ k x) ?_
  unfold rN107
  dsimp only
  refine all_t (K80_ok _ (by (repeat ((try dsimp only); first | assumption | (with_reducible first | apply G75_cur | apply G80_cur | apply G106_cur | apply G66_cur | apply G45_cur))))) ?_
  refine all_b (fun hb => ?_) (fun _ => ?_)
  · refine all_t hb ?_
    exact hk _ (by show CurOk _; (repeat ((try dsimp only); first | assumption | (with_reducible first | apply G75_cur | apply G80_cur | apply G106_cur | apply G66_cur | apply G45_cur))))
  · exact allK_intro fun z => hk _ (by show CurOk _; (repeat ((try dsimp only); first | assumption | (with_reducible first | apply G75_cur | apply G80_cur | apply G106_cur | apply G66_cur | apply G45_cur))))


theorem below_bd (n : Int) (c : List Int × Int × Int × Unit) (h : CurOk c) (hn : 0 < n) : 0 ≤ ((G66 (((), n, ()), c, ())).1.1 : Int) ∧ ((G66 (((), n, ()), c, ())).1.1 : Int) < n := by
  obtain ⟨_, h1, h2⟩ := G66_ok (((), n, ()), c, ()) h
  exact ⟨h1, h2 hn⟩

/-! ## Winds -/

def p90 (x : I90.den) : Bool := curB x.2.1
def Q90 (x : I90.den) (y : O90.den) : Prop := CurOk y.2.1
theorem e90 : Nonempty (Ch I90 O90 p90 Q90) := ⟨⟨fun _ => (((0, 0), ()), (curZ, ())), fun _ _ => curZ_ok⟩⟩
theorem fam90 : FamOK Try.prog 90 (sgFam true I90 O90 p90 Q90 e90) := sgN_ok env90 (N := N90 p107 Q107 e107) (mkN_ok ⟨fam107, trivial⟩) is90 noNLoops fun x hx k hk => by
  have hk : ∀ y : O90.den, CurOk y.2.1 → k y = some () := hk
  have h : CurOk x.2.1 := curB_iff.1 hx
  refine Eq.trans (evN90 _ _ _ _ _ _ _ _ _ _ _ k x) ?_
  unfold rN90
  dsimp only
  haveI := e107
  refine all_t (K45_ok _ (by (repeat ((try dsimp only); first | assumption | (with_reducible first | apply G75_cur | apply G80_cur | apply G106_cur | apply G66_cur | apply G45_cur))))) ?_
  refine all_b (fun _ => ?_) (fun _ => ?_)
  · refine all_t (K106_ok _ (by (repeat ((try dsimp only); first | assumption | (with_reducible first | apply G75_cur | apply G80_cur | apply G106_cur | apply G66_cur | apply G45_cur))))) ?_
    refine all_b (fun h1 => ?_) (fun _ => ?_)
    · refine all_t h1 ?_
      refine all_t (K106_ok _ (by (repeat ((try dsimp only); first | assumption | (with_reducible first | apply G75_cur | apply G80_cur | apply G106_cur | apply G66_cur | apply G45_cur))))) ?_
      refine all_b (fun h2 => ?_) (fun _ => ?_)
      · refine all_t h2 ?_
        exact hk _ (by (repeat ((try dsimp only); first | assumption | (with_reducible first | apply G75_cur | apply G80_cur | apply G106_cur | apply G66_cur | apply G45_cur))))
      · exact allK_intro fun z => hk _ (by (repeat ((try dsimp only); first | assumption | (with_reducible first | apply G75_cur | apply G80_cur | apply G106_cur | apply G66_cur | apply G45_cur))))
    · refine allK_intro fun z => ?_
      refine all_t (K106_ok _ (by (repeat ((try dsimp only); first | assumption | (with_reducible first | apply G75_cur | apply G80_cur | apply G106_cur | apply G66_cur | apply G45_cur))))) ?_
      refine all_b (fun h2 => ?_) (fun _ => ?_)
      · refine all_t h2 ?_
        exact hk _ (by (repeat ((try dsimp only); first | assumption | (with_reducible first | apply G75_cur | apply G80_cur | apply G106_cur | apply G66_cur | apply G45_cur))))
      · exact allK_intro fun z => hk _ (by (repeat ((try dsimp only); first | assumption | (with_reducible first | apply G75_cur | apply G80_cur | apply G106_cur | apply G66_cur | apply G45_cur))))
  · refine all_t (K45_ok _ (by (repeat ((try dsimp only); first | assumption | (with_reducible first | apply G75_cur | apply G80_cur | apply G106_cur | apply G66_cur | apply G45_cur))))) ?_
    have c3 : CurOk (G45 (((), 20, ()), (G45 (((), 30, ()), x.snd)).snd)).snd.fst := by (repeat ((try dsimp only); first | assumption | (with_reducible first | apply G75_cur | apply G80_cur | apply G106_cur | apply G66_cur | apply G45_cur)))
    generalize G45 (((), 20, ()), (G45 (((), 30, ()), x.snd)).snd) = A at *
    refine all_b (fun _ => ?_) (fun _ => ?_)
    · refine all_t (K76_ok _ c3 (by simp)) ?_
      have c9 := G76_cur (((), (), ()), A.snd.fst, ((((List.replicate 4 (zero (Ty.int IntKind.i64))).set 0 100).set 1 (-100)).set 2 101).set 3 0, ()) c3 (by simp)
      refine allK_intro fun g => ?_
      have hp : p107 (((), 100, ()), (G76 (((), (), ()), A.snd.fst, ((((List.replicate 4 (zero (Ty.int IntKind.i64))).set 0 100).set 1 (-100)).set 2 101).set 3 0, ())).snd.fst, ()) = true := curB_iff.2 c9
      refine all_t hp ?_
      exact hk _ (g.2 _ hp)
    · refine allK_intro fun g => ?_
      have hp : p107 (((), 15, ()), A.snd) = true := curB_iff.2 c3
      refine all_t hp ?_
      refine allK_intro fun g2 => ?_
      have hp2 : p107 (((), 15, ()), (g.val (((), 15, ()), A.snd)).snd) = true := curB_iff.2 (g.2 _ hp)
      refine all_t hp2 ?_
      exact hk _ (g2.2 _ hp2)

def p74 (x : I74.den) : Bool := curB x.2.1
def Q74 (x : I74.den) (y : O74.den) : Prop := CurOk y.2.1
theorem e74 : Nonempty (Ch I74 O74 p74 Q74) := ⟨⟨fun _ => (((0, 0), ()), (curZ, ())), fun _ _ => curZ_ok⟩⟩
theorem fam74 : FamOK Try.prog 74 (sgFam true I74 O74 p74 Q74 e74) := sgN_ok env74 (N := N74 p90 Q90 e90) (mkN_ok ⟨fam90, trivial⟩) is74 noNLoops fun x hx k hk => by
  have hk : ∀ y : O74.den, CurOk y.2.1 → k y = some () := hk
  have h : CurOk x.2.1 := curB_iff.1 hx
  refine Eq.trans (evN74 _ _ _ _ _ _ _ _ _ k x) ?_
  unfold rN74
  dsimp only
  haveI := e90
  refine all_t (K45_ok _ (by (repeat ((try dsimp only); first | assumption | (with_reducible first | apply G75_cur | apply G80_cur | apply G106_cur | apply G66_cur | apply G45_cur))))) ?_
  have c1 : CurOk (G45 (((), 12, ()), x.snd)).snd.fst := by (repeat ((try dsimp only); first | assumption | (with_reducible first | apply G75_cur | apply G80_cur | apply G106_cur | apply G66_cur | apply G45_cur)))
  generalize G45 (((), 12, ()), x.snd) = A at *
  refine all_b (fun _ => ?_) (fun _ => ?_)
  · refine allK_intro fun g => ?_
    have hp : p90 (((), ()), A.snd) = true := curB_iff.2 c1
    refine all_t hp ?_
    exact hk _ (g.2 _ hp)
  · refine all_t (K66_ok _ (by (repeat ((try dsimp only); first | assumption | (with_reducible first | apply G75_cur | apply G80_cur | apply G106_cur | apply G66_cur | apply G45_cur))))) ?_
    refine all_t (K66_ok _ (by (repeat ((try dsimp only); first | assumption | (with_reducible first | apply G75_cur | apply G80_cur | apply G106_cur | apply G66_cur | apply G45_cur))))) ?_
    exact hk _ (by (repeat ((try dsimp only); first | assumption | (with_reducible first | apply G75_cur | apply G80_cur | apply G106_cur | apply G66_cur | apply G45_cur))))

end Go.Proofs.Ytmmdjajebmihhaa.AM

/- What functions of the program make of their arguments; each is what its evaluation says. Printed by fx.py. -/
namespace Go.Proofs.Ytmmdjajebmihhaa.AM
open Go Go.Proofs
set_option linter.unusedVariables false
set_option maxRecDepth 100000
set_option maxHeartbeats 0

/- "loop.example/g03321/spec.l05Tide" mode S true -/
abbrev I87 : Sg := ⟨[.ptr 0], [.box (S98)]⟩
abbrev O87 : Sg := ⟨[.mix [.ref (S96) 1, .ref (.int .i64) 2]], [.box (S98), .arr (S96), .arr (.int .i64)]⟩
abbrev V87_3 : Type := ((Unit × (Unit × (Unit × (Int × Unit)))) × (((List (Den (.int .u8))) × (Int × (Int × Unit))) × ((Unit × (Unit × Unit)) × ((Unit × (Unit × Unit)) × ((List (Den (S96))) × Unit)))))
def sh87_3 : ShS := ⟨[(0, .one (.ptr 0 0)), (2, .one (.ptr 1 0)), (3, .one (.ptr 2 0)), (4, .one (.int .i64))], [(0, .box [.sl (.int .u8), .int .i64, .int .i64]), (1, .box [.nil (S96), .nil (.int .i64)]), (2, .box [.ref (S96) 3, .nil (.int .i64)]), (3, .arr (S96))], 4, 1⟩
abbrev X87_3 : Type := ((Unit × (Unit × (Unit × Unit))) × (((List (Den (.int .u8))) × (Int × (Int × Unit))) × ((Unit × (Unit × Unit)) × ((Unit × (Unit × Unit)) × ((List (Den (S96))) × Unit)))))
def shX87_3 : ShS := ⟨[(0, .one (.ptr 0 0)), (2, .one (.ptr 1 0)), (3, .one (.ptr 2 0))], [(0, .box [.sl (.int .u8), .int .i64, .int .i64]), (1, .box [.nil (S96), .nil (.int .i64)]), (2, .box [.ref (S96) 3, .nil (.int .i64)]), (3, .arr (S96))], 4, 1⟩
abbrev V87_8 : Type := ((Unit × (Unit × (Unit × (Int × (Unit × (Int × Unit)))))) × (((List (Den (.int .u8))) × (Int × (Int × Unit))) × ((Unit × (Unit × Unit)) × ((Unit × (Unit × Unit)) × ((List (Den (S96))) × (((Nat × Nat) × ((Nat × Nat) × ((Nat × Nat) × ((Nat × Nat) × ((Nat × Nat) × ((Nat × Nat) × ((Nat × Nat) × ((Nat × Nat) × ((Nat × Nat) × ((Nat × Nat) × ((Nat × Nat) × ((Nat × Nat) × ((Nat × Nat) × ((Nat × Nat) × Unit)))))))))))))) × Unit))))))
def sh87_8 : ShS := ⟨[(0, .one (.ptr 0 0)), (2, .one (.ptr 1 0)), (3, .one (.ptr 2 0)), (4, .one (.int .i64)), (6, .one (.ptr 4 0)), (7, .one (.int .i64))], [(0, .box [.sl (.int .u8), .int .i64, .int .i64]), (1, .box [.nil (S96), .nil (.int .i64)]), (2, .box [.ref (S96) 3, .nil (.int .i64)]), (3, .arr (S96)), (4, .box [.cpx .f64, .cpx .f32, .cpx .f32, .cpx .f32, .cpx .f32, .cpx .f32, .cpx .f32, .cpx .f32, .cpx .f32, .cpx .f32, .cpx .f32, .cpx .f32, .cpx .f32, .cpx .f32])], 5, 1⟩
abbrev X87_8 : Type := ((Unit × (Unit × (Unit × (Int × (Unit × Unit))))) × (((List (Den (.int .u8))) × (Int × (Int × Unit))) × ((Unit × (Unit × Unit)) × ((Unit × (Unit × Unit)) × ((List (Den (S96))) × (((Nat × Nat) × ((Nat × Nat) × ((Nat × Nat) × ((Nat × Nat) × ((Nat × Nat) × ((Nat × Nat) × ((Nat × Nat) × ((Nat × Nat) × ((Nat × Nat) × ((Nat × Nat) × ((Nat × Nat) × ((Nat × Nat) × ((Nat × Nat) × ((Nat × Nat) × Unit)))))))))))))) × Unit))))))
def shX87_8 : ShS := ⟨[(0, .one (.ptr 0 0)), (2, .one (.ptr 1 0)), (3, .one (.ptr 2 0)), (4, .one (.int .i64)), (6, .one (.ptr 4 0))], [(0, .box [.sl (.int .u8), .int .i64, .int .i64]), (1, .box [.nil (S96), .nil (.int .i64)]), (2, .box [.ref (S96) 3, .nil (.int .i64)]), (3, .arr (S96)), (4, .box [.cpx .f64, .cpx .f32, .cpx .f32, .cpx .f32, .cpx .f32, .cpx .f32, .cpx .f32, .cpx .f32, .cpx .f32, .cpx .f32, .cpx .f32, .cpx .f32, .cpx .f32, .cpx .f32])], 5, 1⟩
abbrev V87_17 : Type := ((Unit × (Unit × (Unit × (Int × (Int × Unit))))) × (((List (Den (.int .u8))) × (Int × (Int × Unit))) × ((Unit × (Unit × Unit)) × ((Unit × (Unit × Unit)) × ((List (Den (S96))) × ((List (Den (.int .i64))) × Unit))))))
def sh87_17 : ShS := ⟨[(0, .one (.ptr 0 0)), (2, .one (.ptr 1 0)), (3, .one (.ptr 2 0)), (9, .one (.int .i64)), (10, .one (.int .i64))], [(0, .box [.sl (.int .u8), .int .i64, .int .i64]), (1, .box [.nil (S96), .nil (.int .i64)]), (2, .box [.ref (S96) 3, .ref (.int .i64) 4]), (3, .arr (S96)), (4, .arr (.int .i64))], 5, 1⟩
abbrev X87_17 : Type := ((Unit × (Unit × Unit)) × (((List (Den (.int .u8))) × (Int × (Int × Unit))) × ((Unit × (Unit × Unit)) × ((Unit × (Unit × Unit)) × ((List (Den (S96))) × ((List (Den (.int .i64))) × Unit))))))
def shX87_17 : ShS := ⟨[(2, .one (.ptr 1 0)), (3, .one (.ptr 2 0))], [(0, .box [.sl (.int .u8), .int .i64, .int .i64]), (1, .box [.nil (S96), .nil (.int .i64)]), (2, .box [.ref (S96) 3, .ref (.int .i64) 4]), (3, .arr (S96)), (4, .arr (.int .i64))], 5, 1⟩
noncomputable def Γ87 (k66 : I66.den → Bool) (g66 : I66.den → O66.den) (k45 : I45.den → Bool) (g45 : I45.den → O45.den) (kl3 : V87_3 → Bool) (xl3 : V87_3 → X87_3) (kl8 : V87_8 → Bool) (xl8 : V87_8 → X87_8) (kl17 : V87_17 → Bool) (xl17 : V87_17 → X87_17) : Env := mkEnv tab eqs [(66, sgMean true I66 O66 k66 g66), (45, sgMean true I45 O45 k45 g45)] 83 [.cell 2 49] [] [] [(3, loopX [0, 2, 3, 4] [.boxNil 3 0] 0 [0, 2, 3] [] sh87_3 shX87_3 kl3 xl3), (8, loopX [0, 2, 3, 4, 6, 7] [] 2 [0, 2, 3, 4, 6] [] sh87_8 shX87_8 kl8 xl8), (17, loopX [0, 2, 3, 9, 10] [.boxNil 3 1] 4 [2, 3] [] sh87_17 shX87_17 kl17 xl17)] [] []
noncomputable def lc87_3 : Code := (loopsOf (bodyOf Try.f87)).getD 0 .skip
noncomputable def lc87_8 : Code := (loopsOf (bodyOf Try.f87)).getD 1 .skip
noncomputable def lc87_17 : Code := (loopsOf (bodyOf Try.f87)).getD 2 .skip
def q87_17 (k66 : I66.den → Bool) (g66 : I66.den → O66.den) (k45 : I45.den → Bool) (g45 : I45.den → O45.den) (f : V87_17 → Option (X87_17)) (v : V87_17) : Option (X87_17) :=
  bif (decide (v.fst.snd.snd.snd.snd.fst > 0)) then
    let v0 := (List.set (List.replicate 1 (zero (Ty.int IntKind.i64))) 0 v.fst.snd.snd.snd.fst)
    bif (capOk (List.length v.snd.snd.snd.snd.snd.fst + List.length v0)) then
      let v1 := (k66 (((), 3, ()), v.snd.fst, ()))
      bif (v1) then
        let v2 := (g66 (((), 3, ()), v.snd.fst, ()))
        let v3 := (k66 (((), 20000, ()), v2.snd))
        bif (v3) then
          let v4 := (IntKind.wrap IntKind.i64 (v.fst.snd.snd.snd.fst + 21600))
          let v5 := (g66 (((), 20000, ()), v2.snd))
          let v6 := (IntKind.wrap IntKind.i64 (v2.fst.fst * v5.fst.fst))
          let v7 := (IntKind.wrap IntKind.i64 (v4 + v6))
          let v8 := (IntKind.wrap IntKind.i64 (v.fst.snd.snd.snd.snd.fst - 1))
          let v9 := (v.snd.snd.snd.snd.snd.fst ++ v0)
          f (((), ((), ((), ((v7), ((v8), ()))))), (((v5.snd.fst.1), ((v5.snd.fst.snd.1), ((v5.snd.fst.snd.snd.1), ()))), (((), ((), ())), (((), ((), ())), ((v.snd.snd.snd.snd.1), ((v9), ()))))))
        else
          none
      else
        none
    else
      none
  else
    some (((), ((), ())), (((v.snd.fst.1), ((v.snd.fst.snd.1), ((v.snd.fst.snd.snd.1), ()))), (((), ((), ())), (((), ((), ())), ((v.snd.snd.snd.snd.1), ((v.snd.snd.snd.snd.snd.1), ()))))))
theorem evl87_17 (k66 : I66.den → Bool) (g66 : I66.den → O66.den) (k45 : I45.den → Bool) (g45 : I45.den → O45.den) (kl3 : V87_3 → Bool) (xl3 : V87_3 → X87_3) (kl8 : V87_8 → Bool) (xl8 : V87_8 → X87_8) (kl17 : V87_17 → Bool) (xl17 : V87_17 → X87_17) (f : V87_17 → Option (X87_17)) (v : V87_17) : EBk (Γ87 k66 g66 k45 g45 kl3 xl3 kl8 xl8 kl17 xl17) lc87_17 (roundK [0, 2, 3, 9, 10] [.boxNil 3 1] 4 [2, 3] [] (atS sh87_17 f) (endX shX87_17)) (mkS sh87_17 v) = q87_17 k66 g66 k45 g45 f v := by kernel_rfl
def b87_17 (v : V87_17) : Nat := v.1.2.2.2.1.natAbs + v.1.2.2.2.2.1.natAbs + v.2.1.1.length + v.2.1.2.1.natAbs + v.2.1.2.2.1.natAbs + v.2.2.2.2.1.length + v.2.2.2.2.2.1.length + 1000
def l87_17 (v : V87_17) : Option (X87_17) := iter (q87_17 K66 G66 K45 G45) (b87_17 v) v
def kL87_17 (v : V87_17) : Bool := (l87_17 v).isSome
def xL87_17 (v : V87_17) : X87_17 := (l87_17 v).getD (((), ((), ())), (([], (0, (0, ()))), (((), ((), ())), (((), ((), ())), ([], ([], ()))))))
def q87_8 (k66 : I66.den → Bool) (g66 : I66.den → O66.den) (k45 : I45.den → Bool) (g45 : I45.den → O45.den) (f : V87_8 → Option (X87_8)) (v : V87_8) : Option (X87_8) :=
  bif (decide (v.fst.snd.snd.snd.snd.snd.fst < 13)) then
    let v0 := (k66 (((), 33, ()), v.snd.fst, ()))
    bif (v0) then
      let v1 := (g66 (((), 33, ()), v.snd.fst, ()))
      let v2 := (k66 (((), 33, ()), v1.snd))
      bif (v2) then
        bif (decide (0 ≤ v.fst.snd.snd.snd.snd.snd.fst) && decide (v.fst.snd.snd.snd.snd.snd.fst < (↑13 : Int))) then
          let v3 := (IntKind.wrap IntKind.i64 (v.fst.snd.snd.snd.snd.snd.fst + 1))
          let v4 := (g66 (((), 33, ()), v1.snd))
          let v5 := (IntKind.wrap IntKind.i64 (v1.fst.fst - 16))
          let v6 := (farith BinOp.quo FloatKind.f32 (FloatKind.nearest FloatKind.f32 v5) 1098907648)
          let v7 := (IntKind.wrap IntKind.i64 (v4.fst.fst - 16))
          let v8 := (farith BinOp.quo FloatKind.f32 (FloatKind.nearest FloatKind.f32 v7) 1098907648)
          f (((), ((), ((), ((v.fst.snd.snd.snd.1), ((), ((v3), ())))))), (((v4.snd.fst.1), ((v4.snd.fst.snd.1), ((v4.snd.fst.snd.snd.1), ()))), (((), ((), ())), (((), ((), ())), ((v.snd.snd.snd.snd.1), ((((v.snd.snd.snd.snd.snd.fst.fst.1), (v.snd.snd.snd.snd.snd.fst.fst.2)), (((bif Nat.beq 0 (Int.toNat v.fst.snd.snd.snd.snd.snd.fst) then v6 else v.snd.snd.snd.snd.snd.fst.snd.fst.fst), (bif Nat.beq 0 (Int.toNat v.fst.snd.snd.snd.snd.snd.fst) then v8 else v.snd.snd.snd.snd.snd.fst.snd.fst.snd)), (((bif Nat.beq (0 + 1) (Int.toNat v.fst.snd.snd.snd.snd.snd.fst) then v6 else v.snd.snd.snd.snd.snd.fst.snd.snd.fst.fst), (bif Nat.beq (0 + 1) (Int.toNat v.fst.snd.snd.snd.snd.snd.fst) then v8 else v.snd.snd.snd.snd.snd.fst.snd.snd.fst.snd)), (((bif Nat.beq (0 + 1 + 1) (Int.toNat v.fst.snd.snd.snd.snd.snd.fst) then v6 else v.snd.snd.snd.snd.snd.fst.snd.snd.snd.fst.fst), (bif Nat.beq (0 + 1 + 1) (Int.toNat v.fst.snd.snd.snd.snd.snd.fst) then v8 else v.snd.snd.snd.snd.snd.fst.snd.snd.snd.fst.snd)), (((bif Nat.beq (0 + 1 + 1 + 1) (Int.toNat v.fst.snd.snd.snd.snd.snd.fst) then v6 else v.snd.snd.snd.snd.snd.fst.snd.snd.snd.snd.fst.fst), (bif Nat.beq (0 + 1 + 1 + 1) (Int.toNat v.fst.snd.snd.snd.snd.snd.fst) then v8 else v.snd.snd.snd.snd.snd.fst.snd.snd.snd.snd.fst.snd)), (((bif Nat.beq (0 + 1 + 1 + 1 + 1) (Int.toNat v.fst.snd.snd.snd.snd.snd.fst) then v6 else v.snd.snd.snd.snd.snd.fst.snd.snd.snd.snd.snd.fst.fst), (bif Nat.beq (0 + 1 + 1 + 1 + 1) (Int.toNat v.fst.snd.snd.snd.snd.snd.fst) then v8 else v.snd.snd.snd.snd.snd.fst.snd.snd.snd.snd.snd.fst.snd)), (((bif Nat.beq (0 + 1 + 1 + 1 + 1 + 1) (Int.toNat v.fst.snd.snd.snd.snd.snd.fst) then v6 else v.snd.snd.snd.snd.snd.fst.snd.snd.snd.snd.snd.snd.fst.fst), (bif Nat.beq (0 + 1 + 1 + 1 + 1 + 1) (Int.toNat v.fst.snd.snd.snd.snd.snd.fst) then v8 else v.snd.snd.snd.snd.snd.fst.snd.snd.snd.snd.snd.snd.fst.snd)), (((bif Nat.beq (0 + 1 + 1 + 1 + 1 + 1 + 1) (Int.toNat v.fst.snd.snd.snd.snd.snd.fst) then v6 else v.snd.snd.snd.snd.snd.fst.snd.snd.snd.snd.snd.snd.snd.fst.fst), (bif Nat.beq (0 + 1 + 1 + 1 + 1 + 1 + 1) (Int.toNat v.fst.snd.snd.snd.snd.snd.fst) then v8 else v.snd.snd.snd.snd.snd.fst.snd.snd.snd.snd.snd.snd.snd.fst.snd)), (((bif Nat.beq (0 + 1 + 1 + 1 + 1 + 1 + 1 + 1) (Int.toNat v.fst.snd.snd.snd.snd.snd.fst) then v6 else v.snd.snd.snd.snd.snd.fst.snd.snd.snd.snd.snd.snd.snd.snd.fst.fst), (bif Nat.beq (0 + 1 + 1 + 1 + 1 + 1 + 1 + 1) (Int.toNat v.fst.snd.snd.snd.snd.snd.fst) then v8 else v.snd.snd.snd.snd.snd.fst.snd.snd.snd.snd.snd.snd.snd.snd.fst.snd)), (((bif Nat.beq (0 + 1 + 1 + 1 + 1 + 1 + 1 + 1 + 1) (Int.toNat v.fst.snd.snd.snd.snd.snd.fst) then v6 else v.snd.snd.snd.snd.snd.fst.snd.snd.snd.snd.snd.snd.snd.snd.snd.fst.fst), (bif Nat.beq (0 + 1 + 1 + 1 + 1 + 1 + 1 + 1 + 1) (Int.toNat v.fst.snd.snd.snd.snd.snd.fst) then v8 else v.snd.snd.snd.snd.snd.fst.snd.snd.snd.snd.snd.snd.snd.snd.snd.fst.snd)), (((bif Nat.beq (0 + 1 + 1 + 1 + 1 + 1 + 1 + 1 + 1 + 1) (Int.toNat v.fst.snd.snd.snd.snd.snd.fst) then v6 else v.snd.snd.snd.snd.snd.fst.snd.snd.snd.snd.snd.snd.snd.snd.snd.snd.fst.fst), (bif Nat.beq (0 + 1 + 1 + 1 + 1 + 1 + 1 + 1 + 1 + 1) (Int.toNat v.fst.snd.snd.snd.snd.snd.fst) then v8 else v.snd.snd.snd.snd.snd.fst.snd.snd.snd.snd.snd.snd.snd.snd.snd.snd.fst.snd)), (((bif Nat.beq (0 + 1 + 1 + 1 + 1 + 1 + 1 + 1 + 1 + 1 + 1) (Int.toNat v.fst.snd.snd.snd.snd.snd.fst) then v6 else v.snd.snd.snd.snd.snd.fst.snd.snd.snd.snd.snd.snd.snd.snd.snd.snd.snd.fst.fst), (bif Nat.beq (0 + 1 + 1 + 1 + 1 + 1 + 1 + 1 + 1 + 1 + 1) (Int.toNat v.fst.snd.snd.snd.snd.snd.fst) then v8 else v.snd.snd.snd.snd.snd.fst.snd.snd.snd.snd.snd.snd.snd.snd.snd.snd.snd.fst.snd)), (((bif Nat.beq (0 + 1 + 1 + 1 + 1 + 1 + 1 + 1 + 1 + 1 + 1 + 1) (Int.toNat v.fst.snd.snd.snd.snd.snd.fst) then v6 else v.snd.snd.snd.snd.snd.fst.snd.snd.snd.snd.snd.snd.snd.snd.snd.snd.snd.snd.fst.fst), (bif Nat.beq (0 + 1 + 1 + 1 + 1 + 1 + 1 + 1 + 1 + 1 + 1 + 1) (Int.toNat v.fst.snd.snd.snd.snd.snd.fst) then v8 else v.snd.snd.snd.snd.snd.fst.snd.snd.snd.snd.snd.snd.snd.snd.snd.snd.snd.snd.fst.snd)), (((bif Nat.beq (0 + 1 + 1 + 1 + 1 + 1 + 1 + 1 + 1 + 1 + 1 + 1 + 1) (Int.toNat v.fst.snd.snd.snd.snd.snd.fst) then v6 else v.snd.snd.snd.snd.snd.fst.snd.snd.snd.snd.snd.snd.snd.snd.snd.snd.snd.snd.snd.fst.fst), (bif Nat.beq (0 + 1 + 1 + 1 + 1 + 1 + 1 + 1 + 1 + 1 + 1 + 1 + 1) (Int.toNat v.fst.snd.snd.snd.snd.snd.fst) then v8 else v.snd.snd.snd.snd.snd.fst.snd.snd.snd.snd.snd.snd.snd.snd.snd.snd.snd.snd.snd.fst.snd)), ())))))))))))))), ()))))))
        else
          none
      else
        none
    else
      none
  else
    some (((), ((), ((), ((v.fst.snd.snd.snd.1), ((), ()))))), (((v.snd.fst.1), ((v.snd.fst.snd.1), ((v.snd.fst.snd.snd.1), ()))), (((), ((), ())), (((), ((), ())), ((v.snd.snd.snd.snd.1), ((((v.snd.snd.snd.snd.snd.fst.fst.1), (v.snd.snd.snd.snd.snd.fst.fst.2)), (((v.snd.snd.snd.snd.snd.fst.snd.fst.1), (v.snd.snd.snd.snd.snd.fst.snd.fst.2)), (((v.snd.snd.snd.snd.snd.fst.snd.snd.fst.1), (v.snd.snd.snd.snd.snd.fst.snd.snd.fst.2)), (((v.snd.snd.snd.snd.snd.fst.snd.snd.snd.fst.1), (v.snd.snd.snd.snd.snd.fst.snd.snd.snd.fst.2)), (((v.snd.snd.snd.snd.snd.fst.snd.snd.snd.snd.fst.1), (v.snd.snd.snd.snd.snd.fst.snd.snd.snd.snd.fst.2)), (((v.snd.snd.snd.snd.snd.fst.snd.snd.snd.snd.snd.fst.1), (v.snd.snd.snd.snd.snd.fst.snd.snd.snd.snd.snd.fst.2)), (((v.snd.snd.snd.snd.snd.fst.snd.snd.snd.snd.snd.snd.fst.1), (v.snd.snd.snd.snd.snd.fst.snd.snd.snd.snd.snd.snd.fst.2)), (((v.snd.snd.snd.snd.snd.fst.snd.snd.snd.snd.snd.snd.snd.fst.1), (v.snd.snd.snd.snd.snd.fst.snd.snd.snd.snd.snd.snd.snd.fst.2)), (((v.snd.snd.snd.snd.snd.fst.snd.snd.snd.snd.snd.snd.snd.snd.fst.1), (v.snd.snd.snd.snd.snd.fst.snd.snd.snd.snd.snd.snd.snd.snd.fst.2)), (((v.snd.snd.snd.snd.snd.fst.snd.snd.snd.snd.snd.snd.snd.snd.snd.fst.1), (v.snd.snd.snd.snd.snd.fst.snd.snd.snd.snd.snd.snd.snd.snd.snd.fst.2)), (((v.snd.snd.snd.snd.snd.fst.snd.snd.snd.snd.snd.snd.snd.snd.snd.snd.fst.1), (v.snd.snd.snd.snd.snd.fst.snd.snd.snd.snd.snd.snd.snd.snd.snd.snd.fst.2)), (((v.snd.snd.snd.snd.snd.fst.snd.snd.snd.snd.snd.snd.snd.snd.snd.snd.snd.fst.1), (v.snd.snd.snd.snd.snd.fst.snd.snd.snd.snd.snd.snd.snd.snd.snd.snd.snd.fst.2)), (((v.snd.snd.snd.snd.snd.fst.snd.snd.snd.snd.snd.snd.snd.snd.snd.snd.snd.snd.fst.1), (v.snd.snd.snd.snd.snd.fst.snd.snd.snd.snd.snd.snd.snd.snd.snd.snd.snd.snd.fst.2)), (((v.snd.snd.snd.snd.snd.fst.snd.snd.snd.snd.snd.snd.snd.snd.snd.snd.snd.snd.snd.fst.1), (v.snd.snd.snd.snd.snd.fst.snd.snd.snd.snd.snd.snd.snd.snd.snd.snd.snd.snd.snd.fst.2)), ())))))))))))))), ()))))))
theorem evl87_8 (k66 : I66.den → Bool) (g66 : I66.den → O66.den) (k45 : I45.den → Bool) (g45 : I45.den → O45.den) (kl3 : V87_3 → Bool) (xl3 : V87_3 → X87_3) (kl8 : V87_8 → Bool) (xl8 : V87_8 → X87_8) (kl17 : V87_17 → Bool) (xl17 : V87_17 → X87_17) (f : V87_8 → Option (X87_8)) (v : V87_8) : EBk (Γ87 k66 g66 k45 g45 kl3 xl3 kl8 xl8 kl17 xl17) lc87_8 (roundK [0, 2, 3, 4, 6, 7] [] 2 [0, 2, 3, 4, 6] [] (atS sh87_8 f) (endX shX87_8)) (mkS sh87_8 v) = q87_8 k66 g66 k45 g45 f v := by kernel_rfl
def b87_8 (v : V87_8) : Nat := v.1.2.2.2.1.natAbs + v.1.2.2.2.2.2.1.natAbs + v.2.1.1.length + v.2.1.2.1.natAbs + v.2.1.2.2.1.natAbs + v.2.2.2.2.1.length + 1000
def l87_8 (v : V87_8) : Option (X87_8) := iter (q87_8 K66 G66 K45 G45) (b87_8 v) v
def kL87_8 (v : V87_8) : Bool := (l87_8 v).isSome
def xL87_8 (v : V87_8) : X87_8 := (l87_8 v).getD (((), ((), ((), (0, ((), ()))))), (([], (0, (0, ()))), (((), ((), ())), (((), ((), ())), ([], (((0, 0), ((0, 0), ((0, 0), ((0, 0), ((0, 0), ((0, 0), ((0, 0), ((0, 0), ((0, 0), ((0, 0), ((0, 0), ((0, 0), ((0, 0), ((0, 0), ())))))))))))))), ()))))))
def q87_3 (k66 : I66.den → Bool) (g66 : I66.den → O66.den) (k45 : I45.den → Bool) (g45 : I45.den → O45.den) (kl8 : V87_8 → Bool) (xl8 : V87_8 → X87_8) (f : V87_3 → Option (X87_3)) (v : V87_3) : Option (X87_3) :=
  bif (decide (v.fst.snd.snd.snd.fst > 0)) then
    let v0 := (k66 (((), 8001, ()), v.snd.fst, ()))
    bif (v0) then
      let v1 := (g66 (((), 8001, ()), v.snd.fst, ()))
      let v2 := (k66 (((), 8001, ()), v1.snd))
      bif (v2) then
        let v3 := (g66 (((), 8001, ()), v1.snd))
        let v4 := (IntKind.wrap IntKind.i64 (v1.fst.fst - 4000))
        let v5 := (IntKind.wrap IntKind.i64 (v3.fst.fst - 4000))
        let v6 := (kl8 (((), (), (), v.fst.snd.snd.snd.fst, (), 0, ()), v3.snd.fst, ((), (), ()), ((), (), ()), v.snd.snd.snd.snd.fst, ((FloatKind.nearest FloatKind.f64 v4, FloatKind.nearest FloatKind.f64 v5), (0, 0), (0, 0), (0, 0), (0, 0), (0, 0), (0, 0), (0, 0), (0, 0), (0, 0), (0, 0), (0, 0), (0, 0), (0, 0), ()), ()))
        bif (v6) then
          let v7 := (xl8 (((), (), (), v.fst.snd.snd.snd.fst, (), 0, ()), v3.snd.fst, ((), (), ()), ((), (), ()), v.snd.snd.snd.snd.fst, ((FloatKind.nearest FloatKind.f64 v4, FloatKind.nearest FloatKind.f64 v5), (0, 0), (0, 0), (0, 0), (0, 0), (0, 0), (0, 0), (0, 0), (0, 0), (0, 0), (0, 0), (0, 0), (0, 0), (0, 0), ()), ()))
          let v8 := (k45 (((), 5, ()), v7.snd.fst, ()))
          bif (v8) then
            let v9 := (g45 (((), 5, ()), v7.snd.fst, ()))
            bif (v9.fst.1) then
              let v10 := (List.set (List.replicate 1 (zero S96)) 0 (v7.snd.snd.snd.snd.snd.fst.fst, ((0, 0), (0, 0), (0, 0), (0, 0), (0, 0), (0, 0), (0, 0), (0, 0), (0, 0), (0, 0), (0, 0), (0, 0), (0, 0), ()), ()))
              bif (capOk (List.length v7.snd.snd.snd.snd.fst + List.length v10)) then
                let v11 := (IntKind.wrap IntKind.i64 (v7.fst.snd.snd.snd.fst - 1))
                let v12 := (v7.snd.snd.snd.snd.fst ++ v10)
                f (((), ((), ((), ((v11), ())))), (((v9.snd.fst.1), ((v9.snd.fst.snd.1), ((v9.snd.fst.snd.snd.1), ()))), (((), ((), ())), (((), ((), ())), ((v12), ())))))
              else
                none
            else
              let v10 := (List.set (List.replicate 1 (zero S96)) 0 (v7.snd.snd.snd.snd.snd.fst.fst, v7.snd.snd.snd.snd.snd.fst.snd, ()))
              bif (capOk (List.length v7.snd.snd.snd.snd.fst + List.length v10)) then
                let v11 := (IntKind.wrap IntKind.i64 (v7.fst.snd.snd.snd.fst - 1))
                let v12 := (v7.snd.snd.snd.snd.fst ++ v10)
                f (((), ((), ((), ((v11), ())))), (((v9.snd.fst.1), ((v9.snd.fst.snd.1), ((v9.snd.fst.snd.snd.1), ()))), (((), ((), ())), (((), ((), ())), ((v12), ())))))
              else
                none
          else
            none
        else
          none
      else
        none
    else
      none
  else
    some (((), ((), ((), ()))), (((v.snd.fst.1), ((v.snd.fst.snd.1), ((v.snd.fst.snd.snd.1), ()))), (((), ((), ())), (((), ((), ())), ((v.snd.snd.snd.snd.1), ())))))
theorem evl87_3 (k66 : I66.den → Bool) (g66 : I66.den → O66.den) (k45 : I45.den → Bool) (g45 : I45.den → O45.den) (kl3 : V87_3 → Bool) (xl3 : V87_3 → X87_3) (kl8 : V87_8 → Bool) (xl8 : V87_8 → X87_8) (kl17 : V87_17 → Bool) (xl17 : V87_17 → X87_17) (f : V87_3 → Option (X87_3)) (v : V87_3) : EBk (Γ87 k66 g66 k45 g45 kl3 xl3 kl8 xl8 kl17 xl17) lc87_3 (roundK [0, 2, 3, 4] [.boxNil 3 0] 0 [0, 2, 3] [] (atS sh87_3 f) (endX shX87_3)) (mkS sh87_3 v) = q87_3 k66 g66 k45 g45 kl8 xl8 f v := by kernel_rfl
def b87_3 (v : V87_3) : Nat := v.1.2.2.2.1.natAbs + v.2.1.1.length + v.2.1.2.1.natAbs + v.2.1.2.2.1.natAbs + v.2.2.2.2.1.length + 1000
def l87_3 (v : V87_3) : Option (X87_3) := iter (q87_3 K66 G66 K45 G45 kL87_8 xL87_8) (b87_3 v) v
def kL87_3 (v : V87_3) : Bool := (l87_3 v).isSome
def xL87_3 (v : V87_3) : X87_3 := (l87_3 v).getD (((), ((), ((), ()))), (([], (0, (0, ()))), (((), ((), ())), (((), ((), ())), ([], ())))))
def r87 (k66 : I66.den → Bool) (g66 : I66.den → O66.den) (k45 : I45.den → Bool) (g45 : I45.den → O45.den) (kl3 : V87_3 → Bool) (xl3 : V87_3 → X87_3) (kl8 : V87_8 → Bool) (xl8 : V87_8 → X87_8) (kl17 : V87_17 → Bool) (xl17 : V87_17 → X87_17) (x : I87.den) : Option (O87.den) :=
  let v0 := (k66 (((), 3, ()), x.snd))
  bif (v0) then
    let v1 := (g66 (((), 3, ()), x.snd))
    let v2 := (IntKind.wrap IntKind.i64 (1 + v1.fst.fst))
    let v3 := (kl3 (((), (), (), v2, ()), v1.snd.fst, ((), (), ()), ((), (), ()), [], ()))
    bif (v3) then
      let v4 := (xl3 (((), (), (), v2, ()), v1.snd.fst, ((), (), ()), ((), (), ()), [], ()))
      let v5 := (k66 (((), 30000, ()), v4.snd.fst, ()))
      bif (v5) then
        let v6 := (g66 (((), 30000, ()), v4.snd.fst, ()))
        let v7 := (k66 (((), 5, ()), v6.snd))
        bif (v7) then
          let v8 := (g66 (((), 5, ()), v6.snd))
          let v9 := (IntKind.wrap IntKind.i64 (1 + v8.fst.fst))
          let v10 := (kl17 (((), (), (), v6.fst.fst, v9, ()), v8.snd.fst, ((), (), ()), ((), (), ()), v4.snd.snd.snd.snd.fst, [], ()))
          bif (v10) then
            let v11 := (xl17 (((), (), (), v6.fst.fst, v9, ()), v8.snd.fst, ((), (), ()), ((), (), ()), v4.snd.snd.snd.snd.fst, [], ()))
            some ((((), ((), ())), ()), (((v11.snd.fst.1), ((v11.snd.fst.snd.1), ((v11.snd.fst.snd.snd.1), ()))), ((v11.snd.snd.snd.snd.1), ((v11.snd.snd.snd.snd.snd.1), ()))))
          else
            none
        else
          none
      else
        none
    else
      none
  else
    none
theorem ev87 (k66 : I66.den → Bool) (g66 : I66.den → O66.den) (k45 : I45.den → Bool) (g45 : I45.den → O45.den) (kl3 : V87_3 → Bool) (xl3 : V87_3 → X87_3) (kl8 : V87_8 → Bool) (xl8 : V87_8 → X87_8) (kl17 : V87_17 → Bool) (xl17 : V87_17 → X87_17) (x : I87.den) : callS (Γ87 k66 g66 k45 g45 kl3 xl3 kl8 xl8 kl17 xl17) (bodyOf Try.f87) I87 O87 x = r87 k66 g66 k45 g45 kl3 xl3 kl8 xl8 kl17 xl17 x := by kernel_rfl
def F87 (x : I87.den) : Option (O87.den) := r87 K66 G66 K45 G45 kL87_3 xL87_3 kL87_8 xL87_8 kL87_17 xL87_17 x
def K87 (x : I87.den) : Bool := (F87 x).isSome
def G87 (x : I87.den) : O87.den := (F87 x).getD (zeroSg O87)
theorem env87 : EnvOK Try.prog (Γ87 K66 G66 K45 G45 kL87_3 xL87_3 kL87_8 xL87_8 kL87_17 xL87_17) := env_ok mixed tab_ok eqs_ok (.cons sem66 (.cons sem45 .nil))
theorem is87 : FnIs Try.prog 87 (Γ87 K66 G66 K45 G45 kL87_3 xL87_3 kL87_8 xL87_8 kL87_17 xL87_17) (bodyOf Try.f87) := fnIs Try.func87 rfl rfl rfl (by kernel_rfl) (loops_ok (l := [lc87_3, lc87_8, lc87_17]) (by kernel_rfl) (.cons (one_loop rfl (loopX_sound (sh := sh87_3) (shX := shX87_3) (fun f v => evl87_3 K66 G66 K45 G45 kL87_3 xL87_3 kL87_8 xL87_8 kL87_17 xL87_17 f v) b87_3 (((), ((), ((), ()))), (([], (0, (0, ()))), (((), ((), ())), (((), ((), ())), ([], ()))))))) (.cons (one_loop rfl (loopX_sound (sh := sh87_8) (shX := shX87_8) (fun f v => evl87_8 K66 G66 K45 G45 kL87_3 xL87_3 kL87_8 xL87_8 kL87_17 xL87_17 f v) b87_8 (((), ((), ((), (0, ((), ()))))), (([], (0, (0, ()))), (((), ((), ())), (((), ((), ())), ([], (((0, 0), ((0, 0), ((0, 0), ((0, 0), ((0, 0), ((0, 0), ((0, 0), ((0, 0), ((0, 0), ((0, 0), ((0, 0), ((0, 0), ((0, 0), ((0, 0), ())))))))))))))), ())))))))) (.cons (one_loop rfl (loopX_sound (sh := sh87_17) (shX := shX87_17) (fun f v => evl87_17 K66 G66 K45 G45 kL87_3 xL87_3 kL87_8 xL87_8 kL87_17 xL87_17 f v) b87_17 (((), ((), ())), (([], (0, (0, ()))), (((), ((), ())), (((), ((), ())), ([], ([], ())))))))) (.nil)))))
theorem sem87 : SemOK Try.prog (87, sgMean true I87 O87 K87 G87) := sg_opt env87 is87 true fun x => ev87 K66 G66 K45 G45 kL87_3 xL87_3 kL87_8 xL87_8 kL87_17 xL87_17 x

/- "loop.example/g03321/spec.l02Vector" mode S true -/
abbrev I44 : Sg := ⟨[.ptr 0, .val (.int .i64)], [.box (S98)]⟩
abbrev O44 : Sg := ⟨[.val (.cpx .f64)], [.box (S98)]⟩
noncomputable def Γ44 (k80 : I80.den → Bool) (g80 : I80.den → O80.den) : Env := mkEnv tab eqs [(80, sgMean true I80 O80 k80 g80)] 12 [.tmp 4] [] [] [] [] []
def r44 (k80 : I80.den → Bool) (g80 : I80.den → O80.den) (x : I44.den) : Option (O44.den) :=
  let v0 := (k80 (((), x.fst.snd), x.snd))
  bif (v0) then
    let v1 := (g80 (((), x.fst.snd), x.snd))
    let v2 := (k80 (((), x.fst.snd), v1.snd))
    bif (v2) then
      let v3 := (g80 (((), x.fst.snd), v1.snd))
      some ((((v1.fst.1), (v3.fst.1)), ()), (((v3.snd.fst.1), ((v3.snd.fst.snd.1), ((v3.snd.fst.snd.snd.1), ()))), ()))
    else
      none
  else
    none
theorem ev44 (k80 : I80.den → Bool) (g80 : I80.den → O80.den) (x : I44.den) : callS (Γ44 k80 g80) (bodyOf Try.f44) I44 O44 x = r44 k80 g80 x := by kernel_rfl
def F44 (x : I44.den) : Option (O44.den) := r44 K80 G80 x
def K44 (x : I44.den) : Bool := (F44 x).isSome
def G44 (x : I44.den) : O44.den := (F44 x).getD (zeroSg O44)
theorem env44 : EnvOK Try.prog (Γ44 K80 G80) := env_ok mixed tab_ok eqs_ok (.cons sem80 .nil)
theorem is44 : FnIs Try.prog 44 (Γ44 K80 G80) (bodyOf Try.f44) := fnIs Try.func44 rfl rfl rfl (by kernel_rfl) (noLoops (by kernel_rfl))
theorem sem44 : SemOK Try.prog (44, sgMean true I44 O44 K44 G44) := sg_opt env44 is44 true fun x => ev44 K80 G80 x

/- "loop.example/g03321/spec.DrawVectorOk" -/
abbrev A88 : Ty := .cons (.slice (.int .u8)) (.nil)
abbrev R88 : Ty := .cons (.cpx .f64) (.nil)
noncomputable def Γ88 (k30 : I30.den → Bool) (g30 : I30.den → O30.den) (k44 : I44.den → Bool) (g44 : I44.den → O44.den) (k66 : I66.den → Bool) (g66 : I66.den → O66.den) (k106 : I106.den → Bool) (g106 : I106.den → O106.den) : Env := mkEnv tab eqs [(30, sgMean false I30 O30 k30 g30), (44, sgMean true I44 O44 k44 g44), (66, sgMean true I66 O66 k66 g66), (106, sgMean true I106 O106 k106 g106)] 26 [.tmp 2] [] [] [] [] []
def r88 (k30 : I30.den → Bool) (g30 : I30.den → O30.den) (k44 : I44.den → Bool) (g44 : I44.den → O44.den) (k66 : I66.den → Bool) (g66 : I66.den → O66.den) (k106 : I106.den → Bool) (g106 : I106.den → O106.den) (x : Den A88) : Option (Den R88) :=
  let v0 := (k30 (x, ()))
  bif (v0) then
    let v1 := (g30 (x, ()))
    let v2 := (k44 (((), 1000, ()), v1.snd))
    bif (v2) then
      let v3 := (g44 (((), 1000, ()), v1.snd))
      let v4 := (k66 (((), 6, ()), v3.snd))
      bif (v4) then
        let v5 := (g66 (((), 6, ()), v3.snd))
        bif (v5.fst.fst == 0) then
          some (((4726483295884279808), (13949855332739055616)), ())
        else
          bif (v5.fst.fst == 1) then
            some (((v3.fst.fst.1), (4726483295884279809)), ())
          else
            bif (v5.fst.fst == 2) then
              let v6 := (k106 (((), ()), v5.snd))
              bif (v6) then
                let v7 := (g106 (((), ()), v5.snd))
                let v8 := (k106 (((), ()), v7.snd))
                bif (v8) then
                  let v9 := (g106 (((), ()), v7.snd))
                  some (((v7.fst.1), (v9.fst.1)), ())
                else
                  none
              else
                none
            else
              some (((v3.fst.fst.1), (v3.fst.fst.2)), ())
      else
        none
    else
      none
  else
    none
theorem ev88 (k30 : I30.den → Bool) (g30 : I30.den → O30.den) (k44 : I44.den → Bool) (g44 : I44.den → O44.den) (k66 : I66.den → Bool) (g66 : I66.den → O66.den) (k106 : I106.den → Bool) (g106 : I106.den → O106.den) (x : Den A88) : callK (Γ88 k30 g30 k44 g44 k66 g66 k106 g106) (bodyOf Try.f88) (decR R88) (encA A88 x) [] = r88 k30 g30 k44 g44 k66 g66 k106 g106 x := by kernel_rfl
def F88 (x : Den A88) : Option (Den R88) := r88 K30 G30 K44 G44 K66 G66 K106 G106 x
def K88 (x : Den A88) : Bool := (F88 x).isSome
def G88 (x : Den A88) : Den R88 := (F88 x).getD (zero R88)
theorem env88 : EnvOK Try.prog (Γ88 K30 G30 K44 G44 K66 G66 K106 G106) := env_ok mixed tab_ok eqs_ok (.cons sem30 (.cons sem44 (.cons sem66 (.cons sem106 .nil))))
theorem is88 : FnIs Try.prog 88 (Γ88 K30 G30 K44 G44 K66 G66 K106 G106) (bodyOf Try.f88) := fnIs Try.func88 rfl rfl rfl (by kernel_rfl) (noLoops (by kernel_rfl))
theorem sem88 : SemOK Try.prog (88, fnMean A88 R88 K88 G88) := fn_opt env88 is88 fun x => ev88 K30 G30 K44 G44 K66 G66 K106 G106 x

/- "loop.example/g03321/spec.l05Any" mode S true -/
abbrev I58 : Sg := ⟨[.ptr 0], [.box (S98)]⟩
abbrev O58 : Sg := ⟨[.val (S48)], [.box (S98)]⟩
abbrev V58_15 : Type := ((Unit × (Unit × (Unit × Unit))) × (((List (Den (.int .u8))) × (Int × (Int × Unit))) × ((Unit × (Unit × Unit)) × ((Unit × (Unit × Unit)) × ((List (Den (S96))) × ((List (Den (.int .i64))) × Unit))))))
def sh58_15 : ShS := ⟨[(0, .one (.ptr 0 0)), (2, .one (.ptr 1 0)), (3, .one (.ptr 2 0))], [(0, .box [.sl (.int .u8), .int .i64, .int .i64]), (1, .box [.nil (S96), .nil (.int .i64)]), (2, .box [.ref (S96) 3, .ref (.int .i64) 4]), (3, .arr (S96)), (4, .arr (.int .i64))], 5, 1⟩
abbrev X58_15 : Type := ((Unit × (Unit × Unit)) × (((List (Den (.int .u8))) × (Int × (Int × Unit))) × ((Unit × (Unit × Unit)) × ((Unit × (Unit × Unit)) × ((List (Den (S96))) × ((List (Den (.int .i64))) × Unit))))))
def shX58_15 : ShS := ⟨[(2, .one (.ptr 1 0)), (3, .one (.ptr 2 0))], [(0, .box [.sl (.int .u8), .int .i64, .int .i64]), (1, .box [.nil (S96), .nil (.int .i64)]), (2, .box [.ref (S96) 3, .ref (.int .i64) 4]), (3, .arr (S96)), (4, .arr (.int .i64))], 5, 1⟩
noncomputable def Γ58 (k87 : I87.den → Bool) (g87 : I87.den → O87.den) (k66 : I66.den → Bool) (g66 : I66.den → O66.den) (k89 : I89.den → Bool) (g89 : I89.den → O89.den) (k88 : Den A88 → Bool) (g88 : Den A88 → Den R88) (k90 : I90.den → Bool) (g90 : I90.den → O90.den) (k75 : I75.den → Bool) (g75 : I75.den → O75.den) (kl15 : V58_15 → Bool) (xl15 : V58_15 → X58_15) : Env := mkEnv tab eqs [(87, sgMean true I87 O87 k87 g87), (66, sgMean true I66 O66 k66 g66), (89, sgMean true I89 O89 k89 g89), (88, fnMean A88 R88 k88 g88), (90, sgMean true I90 O90 k90 g90), (75, sgMean true I75 O75 k75 g75)] 94 [.cell 2 49] [] [] [(15, loopX [0, 2, 3] [] 1 [2, 3] [] sh58_15 shX58_15 kl15 xl15)] [] [.frzBox 2]
noncomputable def lc58_15 : Code := (loopsOf (bodyOf Try.f58)).getD 0 .skip
def q58_15 (k87 : I87.den → Bool) (g87 : I87.den → O87.den) (k66 : I66.den → Bool) (g66 : I66.den → O66.den) (k89 : I89.den → Bool) (g89 : I89.den → O89.den) (k88 : Den A88 → Bool) (g88 : Den A88 → Den R88) (k90 : I90.den → Bool) (g90 : I90.den → O90.den) (k75 : I75.den → Bool) (g75 : I75.den → O75.den) (f : V58_15 → Option (X58_15)) (v : V58_15) : Option (X58_15) :=
  let v0 := (k66 (((), 2, ()), v.snd.fst, ()))
  bif (v0) then
    let v1 := (g66 (((), 2, ()), v.snd.fst, ()))
    let v2 := (IntKind.wrap IntKind.i64 (20 + v1.fst.fst))
    bif (decide ((↑(List.length v.snd.snd.snd.snd.fst) : Int) < v2)) then
      bif (decide (0 ≤ 0) && decide (0 < (↑(List.length v.snd.snd.snd.snd.fst) : Int))) then
        let v3 := (List.getD v.snd.snd.snd.snd.fst (Int.toNat 0) (zero S96))
        let v4 := (List.set (List.replicate 1 (zero S96)) 0 v3)
        bif (capOk (List.length v.snd.snd.snd.snd.fst + List.length v4)) then
          let v5 := (v.snd.snd.snd.snd.fst ++ v4)
          f (((), ((), ((), ()))), (((v1.snd.fst.1), ((v1.snd.fst.snd.1), ((v1.snd.fst.snd.snd.1), ()))), (((), ((), ())), (((), ((), ())), ((v5), ((v.snd.snd.snd.snd.snd.1), ()))))))
        else
          none
      else
        none
    else
      some (((), ((), ())), (((v1.snd.fst.1), ((v1.snd.fst.snd.1), ((v1.snd.fst.snd.snd.1), ()))), (((), ((), ())), (((), ((), ())), ((v.snd.snd.snd.snd.1), ((v.snd.snd.snd.snd.snd.1), ()))))))
  else
    none
theorem evl58_15 (k87 : I87.den → Bool) (g87 : I87.den → O87.den) (k66 : I66.den → Bool) (g66 : I66.den → O66.den) (k89 : I89.den → Bool) (g89 : I89.den → O89.den) (k88 : Den A88 → Bool) (g88 : Den A88 → Den R88) (k90 : I90.den → Bool) (g90 : I90.den → O90.den) (k75 : I75.den → Bool) (g75 : I75.den → O75.den) (kl15 : V58_15 → Bool) (xl15 : V58_15 → X58_15) (f : V58_15 → Option (X58_15)) (v : V58_15) : EBk (Γ58 k87 g87 k66 g66 k89 g89 k88 g88 k90 g90 k75 g75 kl15 xl15) lc58_15 (roundK [0, 2, 3] [] 1 [2, 3] [] (atS sh58_15 f) (endX shX58_15)) (mkS sh58_15 v) = q58_15 k87 g87 k66 g66 k89 g89 k88 g88 k90 g90 k75 g75 f v := by kernel_rfl
def b58_15 (v : V58_15) : Nat := v.2.1.1.length + v.2.1.2.1.natAbs + v.2.1.2.2.1.natAbs + v.2.2.2.2.1.length + v.2.2.2.2.2.1.length + 1000
def l58_15 (v : V58_15) : Option (X58_15) := iter (q58_15 K87 G87 K66 G66 K89 G89 K88 G88 K90 G90 K75 G75) (b58_15 v) v
def kL58_15 (v : V58_15) : Bool := (l58_15 v).isSome
def xL58_15 (v : V58_15) : X58_15 := (l58_15 v).getD (((), ((), ())), (([], (0, (0, ()))), (((), ((), ())), (((), ((), ())), ([], ([], ()))))))
def r58 (k87 : I87.den → Bool) (g87 : I87.den → O87.den) (k66 : I66.den → Bool) (g66 : I66.den → O66.den) (k89 : I89.den → Bool) (g89 : I89.den → O89.den) (k88 : Den A88 → Bool) (g88 : Den A88 → Den R88) (k90 : I90.den → Bool) (g90 : I90.den → O90.den) (k75 : I75.den → Bool) (g75 : I75.den → O75.den) (kl15 : V58_15 → Bool) (xl15 : V58_15 → X58_15) (x : I58.den) : Option (O58.den) :=
  let v0 := (k87 (((), ()), x.snd))
  bif (v0) then
    let v1 := (g87 (((), ()), x.snd))
    let v2 := (k66 (((), (↑(List.length v1.snd.snd.fst) : Int), ()), v1.snd.fst, ()))
    bif (v2) then
      let v3 := (g66 (((), (↑(List.length v1.snd.snd.fst) : Int), ()), v1.snd.fst, ()))
      let v4 := (k66 (((), 24, ()), v3.snd))
      bif (v4) then
        let v5 := (g66 (((), 24, ()), v3.snd))
        bif (v5.fst.fst == 0) then
          let v6 := (k89 (((), ()), v5.snd))
          bif (v6) then
            let v7 := (g89 (((), ()), v5.snd))
            let v8 := (IntKind.wrap IntKind.u8 v7.fst.fst)
            let v9 := (List.set (List.replicate 1 (zero (Ty.int IntKind.u8))) 0 v8)
            let v10 := (k88 (v9, ()))
            bif (v10) then
              bif (decide (0 ≤ v3.fst.fst) && decide (v3.fst.fst < (↑(List.length v1.snd.snd.fst) : Int))) then
                let v11 := (g88 (v9, ()))
                let v12 := (List.getD v1.snd.snd.fst (Int.toNat v3.fst.fst) (zero S96))
                let v13 := (List.set v1.snd.snd.fst (Int.toNat v3.fst.fst) (v11.fst, v12.snd))
                some ((((v13), ((v1.snd.snd.snd.1), ())), ()), (((v7.snd.fst.1), ((v7.snd.fst.snd.1), ((v7.snd.fst.snd.snd.1), ()))), ()))
              else
                none
            else
              none
          else
            none
        else
          bif (v5.fst.fst == 1) then
            let v6 := (k66 (((), 13, ()), v5.snd))
            bif (v6) then
              let v7 := (g66 (((), 13, ()), v5.snd))
              let v8 := (k90 (((), ()), v7.snd))
              bif (v8) then
                bif (decide (0 ≤ v3.fst.fst) && decide (v3.fst.fst < (↑(List.length v1.snd.snd.fst) : Int))) then
                  bif (decide (0 ≤ v7.fst.fst) && decide (v7.fst.fst < (↑13 : Int))) then
                    let v9 := (List.getD v1.snd.snd.fst (Int.toNat v3.fst.fst) (zero S96))
                    let v10 := (g90 (((), ()), v7.snd))
                    let v11 := (List.set v1.snd.snd.fst (Int.toNat v3.fst.fst) (v9.fst, ((bif Nat.beq 0 (Int.toNat v7.fst.fst) then v10.fst.fst.fst else v9.snd.fst.fst.fst, bif Nat.beq 0 (Int.toNat v7.fst.fst) then v10.fst.fst.snd else v9.snd.fst.fst.snd), (bif Nat.beq (0 + 1) (Int.toNat v7.fst.fst) then v10.fst.fst.fst else v9.snd.fst.snd.fst.fst, bif Nat.beq (0 + 1) (Int.toNat v7.fst.fst) then v10.fst.fst.snd else v9.snd.fst.snd.fst.snd), (bif Nat.beq (0 + 1 + 1) (Int.toNat v7.fst.fst) then v10.fst.fst.fst else v9.snd.fst.snd.snd.fst.fst, bif Nat.beq (0 + 1 + 1) (Int.toNat v7.fst.fst) then v10.fst.fst.snd else v9.snd.fst.snd.snd.fst.snd), (bif Nat.beq (0 + 1 + 1 + 1) (Int.toNat v7.fst.fst) then v10.fst.fst.fst else v9.snd.fst.snd.snd.snd.fst.fst, bif Nat.beq (0 + 1 + 1 + 1) (Int.toNat v7.fst.fst) then v10.fst.fst.snd else v9.snd.fst.snd.snd.snd.fst.snd), (bif Nat.beq (0 + 1 + 1 + 1 + 1) (Int.toNat v7.fst.fst) then v10.fst.fst.fst else v9.snd.fst.snd.snd.snd.snd.fst.fst, bif Nat.beq (0 + 1 + 1 + 1 + 1) (Int.toNat v7.fst.fst) then v10.fst.fst.snd else v9.snd.fst.snd.snd.snd.snd.fst.snd), (bif Nat.beq (0 + 1 + 1 + 1 + 1 + 1) (Int.toNat v7.fst.fst) then v10.fst.fst.fst else v9.snd.fst.snd.snd.snd.snd.snd.fst.fst, bif Nat.beq (0 + 1 + 1 + 1 + 1 + 1) (Int.toNat v7.fst.fst) then v10.fst.fst.snd else v9.snd.fst.snd.snd.snd.snd.snd.fst.snd), (bif Nat.beq (0 + 1 + 1 + 1 + 1 + 1 + 1) (Int.toNat v7.fst.fst) then v10.fst.fst.fst else v9.snd.fst.snd.snd.snd.snd.snd.snd.fst.fst, bif Nat.beq (0 + 1 + 1 + 1 + 1 + 1 + 1) (Int.toNat v7.fst.fst) then v10.fst.fst.snd else v9.snd.fst.snd.snd.snd.snd.snd.snd.fst.snd), (bif Nat.beq (0 + 1 + 1 + 1 + 1 + 1 + 1 + 1) (Int.toNat v7.fst.fst) then v10.fst.fst.fst else v9.snd.fst.snd.snd.snd.snd.snd.snd.snd.fst.fst, bif Nat.beq (0 + 1 + 1 + 1 + 1 + 1 + 1 + 1) (Int.toNat v7.fst.fst) then v10.fst.fst.snd else v9.snd.fst.snd.snd.snd.snd.snd.snd.snd.fst.snd), (bif Nat.beq (0 + 1 + 1 + 1 + 1 + 1 + 1 + 1 + 1) (Int.toNat v7.fst.fst) then v10.fst.fst.fst else v9.snd.fst.snd.snd.snd.snd.snd.snd.snd.snd.fst.fst, bif Nat.beq (0 + 1 + 1 + 1 + 1 + 1 + 1 + 1 + 1) (Int.toNat v7.fst.fst) then v10.fst.fst.snd else v9.snd.fst.snd.snd.snd.snd.snd.snd.snd.snd.fst.snd), (bif Nat.beq (0 + 1 + 1 + 1 + 1 + 1 + 1 + 1 + 1 + 1) (Int.toNat v7.fst.fst) then v10.fst.fst.fst else v9.snd.fst.snd.snd.snd.snd.snd.snd.snd.snd.snd.fst.fst, bif Nat.beq (0 + 1 + 1 + 1 + 1 + 1 + 1 + 1 + 1 + 1) (Int.toNat v7.fst.fst) then v10.fst.fst.snd else v9.snd.fst.snd.snd.snd.snd.snd.snd.snd.snd.snd.fst.snd), (bif Nat.beq (0 + 1 + 1 + 1 + 1 + 1 + 1 + 1 + 1 + 1 + 1) (Int.toNat v7.fst.fst) then v10.fst.fst.fst else v9.snd.fst.snd.snd.snd.snd.snd.snd.snd.snd.snd.snd.fst.fst, bif Nat.beq (0 + 1 + 1 + 1 + 1 + 1 + 1 + 1 + 1 + 1 + 1) (Int.toNat v7.fst.fst) then v10.fst.fst.snd else v9.snd.fst.snd.snd.snd.snd.snd.snd.snd.snd.snd.snd.fst.snd), (bif Nat.beq (0 + 1 + 1 + 1 + 1 + 1 + 1 + 1 + 1 + 1 + 1 + 1) (Int.toNat v7.fst.fst) then v10.fst.fst.fst else v9.snd.fst.snd.snd.snd.snd.snd.snd.snd.snd.snd.snd.snd.fst.fst, bif Nat.beq (0 + 1 + 1 + 1 + 1 + 1 + 1 + 1 + 1 + 1 + 1 + 1) (Int.toNat v7.fst.fst) then v10.fst.fst.snd else v9.snd.fst.snd.snd.snd.snd.snd.snd.snd.snd.snd.snd.snd.fst.snd), (bif Nat.beq (0 + 1 + 1 + 1 + 1 + 1 + 1 + 1 + 1 + 1 + 1 + 1 + 1) (Int.toNat v7.fst.fst) then v10.fst.fst.fst else v9.snd.fst.snd.snd.snd.snd.snd.snd.snd.snd.snd.snd.snd.snd.fst.fst, bif Nat.beq (0 + 1 + 1 + 1 + 1 + 1 + 1 + 1 + 1 + 1 + 1 + 1 + 1) (Int.toNat v7.fst.fst) then v10.fst.fst.snd else v9.snd.fst.snd.snd.snd.snd.snd.snd.snd.snd.snd.snd.snd.snd.fst.snd), ()), ()))
                    some ((((v11), ((v1.snd.snd.snd.1), ())), ()), (((v10.snd.fst.1), ((v10.snd.fst.snd.1), ((v10.snd.fst.snd.snd.1), ()))), ()))
                  else
                    none
                else
                  none
              else
                none
            else
              none
          else
            bif (v5.fst.fst == 2) then
              let v6 := (k66 (((), (↑(List.length v1.snd.snd.snd.fst) : Int), ()), v5.snd))
              bif (v6) then
                let v7 := (g66 (((), (↑(List.length v1.snd.snd.snd.fst) : Int), ()), v5.snd))
                let v8 := (k75 (((), ()), v7.snd))
                bif (v8) then
                  bif (decide (0 ≤ v7.fst.fst) && decide (v7.fst.fst < (↑(List.length v1.snd.snd.snd.fst) : Int))) then
                    let v9 := (g75 (((), ()), v7.snd))
                    let v10 := (List.set v1.snd.snd.snd.fst (Int.toNat v7.fst.fst) v9.fst.fst)
                    some ((((v1.snd.snd.1), ((v10), ())), ()), (((v9.snd.fst.1), ((v9.snd.fst.snd.1), ((v9.snd.fst.snd.snd.1), ()))), ()))
                  else
                    none
                else
                  none
              else
                none
            else
              bif (v5.fst.fst == 3) then
                some ((((v1.snd.snd.1), ((List.replicate 0 (zero (Ty.int IntKind.i64))), ())), ()), (((v5.snd.fst.1), ((v5.snd.fst.snd.1), ((v5.snd.fst.snd.snd.1), ()))), ()))
              else
                bif (v5.fst.fst == 4) then
                  some ((((List.replicate 0 (zero S96)), ((v1.snd.snd.snd.1), ())), ()), (((v5.snd.fst.1), ((v5.snd.fst.snd.1), ((v5.snd.fst.snd.snd.1), ()))), ()))
                else
                  bif (v5.fst.fst == 5) then
                    let v6 := (kl15 (((), (), (), ()), v5.snd.fst, ((), (), ()), ((), (), ()), v1.snd.snd))
                    bif (v6) then
                      let v7 := (xl15 (((), (), (), ()), v5.snd.fst, ((), (), ()), ((), (), ()), v1.snd.snd))
                      some ((((v7.snd.snd.snd.snd.1), ((v7.snd.snd.snd.snd.snd.1), ())), ()), (((v7.snd.fst.1), ((v7.snd.fst.snd.1), ((v7.snd.fst.snd.snd.1), ()))), ()))
                    else
                      none
                  else
                    bif (v5.fst.fst == 6) then
                      let v6 := (IntKind.wrap IntKind.i64 ((↑(List.length v1.snd.snd.snd.fst) : Int) - 1))
                      bif (decide (0 ≤ v6) && decide (v6 < (↑(List.length v1.snd.snd.snd.fst) : Int))) then
                        let v7 := (List.getD v1.snd.snd.snd.fst (Int.toNat v6) (zero (Ty.int IntKind.i64)))
                        let v8 := (IntKind.wrap IntKind.i64 (v7 + 21600))
                        let v9 := (IntKind.wrap IntKind.i64 (v8 - 1))
                        let v10 := (List.set (List.replicate 1 (zero (Ty.int IntKind.i64))) 0 v9)
                        bif (capOk (List.length v1.snd.snd.snd.fst + List.length v10)) then
                          let v11 := (v1.snd.snd.snd.fst ++ v10)
                          some ((((v1.snd.snd.1), ((v11), ())), ()), (((v5.snd.fst.1), ((v5.snd.fst.snd.1), ((v5.snd.fst.snd.snd.1), ()))), ()))
                        else
                          none
                      else
                        none
                    else
                      some ((((v1.snd.snd.1), ((v1.snd.snd.snd.1), ())), ()), (((v5.snd.fst.1), ((v5.snd.fst.snd.1), ((v5.snd.fst.snd.snd.1), ()))), ()))
      else
        none
    else
      none
  else
    none
theorem ev58 (k87 : I87.den → Bool) (g87 : I87.den → O87.den) (k66 : I66.den → Bool) (g66 : I66.den → O66.den) (k89 : I89.den → Bool) (g89 : I89.den → O89.den) (k88 : Den A88 → Bool) (g88 : Den A88 → Den R88) (k90 : I90.den → Bool) (g90 : I90.den → O90.den) (k75 : I75.den → Bool) (g75 : I75.den → O75.den) (kl15 : V58_15 → Bool) (xl15 : V58_15 → X58_15) (x : I58.den) : callS (Γ58 k87 g87 k66 g66 k89 g89 k88 g88 k90 g90 k75 g75 kl15 xl15) (bodyOf Try.f58) I58 O58 x = r58 k87 g87 k66 g66 k89 g89 k88 g88 k90 g90 k75 g75 kl15 xl15 x := by kernel_rfl
def F58 (x : I58.den) : Option (O58.den) := r58 K87 G87 K66 G66 K89 G89 K88 G88 K90 G90 K75 G75 kL58_15 xL58_15 x
def K58 (x : I58.den) : Bool := (F58 x).isSome
def G58 (x : I58.den) : O58.den := (F58 x).getD (zeroSg O58)
theorem env58 : EnvOK Try.prog (Γ58 K87 G87 K66 G66 K89 G89 K88 G88 K90 G90 K75 G75 kL58_15 xL58_15) := env_ok mixed tab_ok eqs_ok (.cons sem87 (.cons sem66 (.cons sem89 (.cons sem88 (.cons sem90 (.cons sem75 .nil))))))
theorem is58 : FnIs Try.prog 58 (Γ58 K87 G87 K66 G66 K89 G89 K88 G88 K90 G90 K75 G75 kL58_15 xL58_15) (bodyOf Try.f58) := fnIs Try.func58 rfl rfl rfl (by kernel_rfl) (loops_ok (l := [lc58_15]) (by kernel_rfl) (.cons (one_loop rfl (loopX_sound (sh := sh58_15) (shX := shX58_15) (fun f v => evl58_15 K87 G87 K66 G66 K89 G89 K88 G88 K90 G90 K75 G75 kL58_15 xL58_15 f v) b58_15 (((), ((), ())), (([], (0, (0, ()))), (((), ((), ())), (((), ((), ())), ([], ([], ())))))))) (.nil)))
theorem sem58 : SemOK Try.prog (58, sgMean true I58 O58 K58 G58) := sg_opt env58 is58 true fun x => ev58 K87 G87 K66 G66 K89 G89 K88 G88 K90 G90 K75 G75 kL58_15 xL58_15 x

/- "loop.example/g03321/spec.l05Place" mode S true -/
abbrev I59 : Sg := ⟨[.ptr 0, .val (S48)], [.box (S98)]⟩
abbrev O59 : Sg := ⟨[.val (.cpx .f64)], [.box (S98)]⟩
noncomputable def Γ59 (k45 : I45.den → Bool) (g45 : I45.den → O45.den) (k66 : I66.den → Bool) (g66 : I66.den → O66.den) (k44 : I44.den → Bool) (g44 : I44.den → O44.den) : Env := mkEnv tab eqs [(45, sgMean true I45 O45 k45 g45), (66, sgMean true I66 O66 k66 g66), (44, sgMean true I44 O44 k44 g44)] 25 [.tmp 4] [] [] [] [] []
def r59 (k45 : I45.den → Bool) (g45 : I45.den → O45.den) (k66 : I66.den → Bool) (g66 : I66.den → O66.den) (k44 : I44.den → Bool) (g44 : I44.den → O44.den) (x : I59.den) : Option (O59.den) :=
  bif (decide ((↑(List.length x.fst.snd.fst.fst) : Int) > 0)) then
    let v0 := (k45 (((), 4, ()), x.snd))
    bif (v0) then
      let v1 := (g45 (((), 4, ()), x.snd))
      bif (v1.fst.1) then
        let v2 := (k66 (((), (↑(List.length x.fst.snd.fst.fst) : Int), ()), v1.snd))
        bif (v2) then
          let v3 := (g66 (((), (↑(List.length x.fst.snd.fst.fst) : Int), ()), v1.snd))
          bif (decide (0 ≤ v3.fst.fst) && decide (v3.fst.fst < (↑(List.length x.fst.snd.fst.fst) : Int))) then
            let v4 := (List.getD x.fst.snd.fst.fst (Int.toNat v3.fst.fst) (zero S96))
            some ((((v4.fst.1), (v4.fst.2)), ()), (((v3.snd.fst.1), ((v3.snd.fst.snd.1), ((v3.snd.fst.snd.snd.1), ()))), ()))
          else
            none
        else
          none
      else
        let v2 := (k44 (((), 5000, ()), v1.snd))
        bif (v2) then
          let v3 := (g44 (((), 5000, ()), v1.snd))
          some ((((v3.fst.fst.1), (v3.fst.fst.2)), ()), (((v3.snd.fst.1), ((v3.snd.fst.snd.1), ((v3.snd.fst.snd.snd.1), ()))), ()))
        else
          none
    else
      none
  else
    let v0 := (k44 (((), 5000, ()), x.snd))
    bif (v0) then
      let v1 := (g44 (((), 5000, ()), x.snd))
      some ((((v1.fst.fst.1), (v1.fst.fst.2)), ()), (((v1.snd.fst.1), ((v1.snd.fst.snd.1), ((v1.snd.fst.snd.snd.1), ()))), ()))
    else
      none
theorem ev59 (k45 : I45.den → Bool) (g45 : I45.den → O45.den) (k66 : I66.den → Bool) (g66 : I66.den → O66.den) (k44 : I44.den → Bool) (g44 : I44.den → O44.den) (x : I59.den) : callS (Γ59 k45 g45 k66 g66 k44 g44) (bodyOf Try.f59) I59 O59 x = r59 k45 g45 k66 g66 k44 g44 x := by kernel_rfl
def F59 (x : I59.den) : Option (O59.den) := r59 K45 G45 K66 G66 K44 G44 x
def K59 (x : I59.den) : Bool := (F59 x).isSome
def G59 (x : I59.den) : O59.den := (F59 x).getD (zeroSg O59)
theorem env59 : EnvOK Try.prog (Γ59 K45 G45 K66 G66 K44 G44) := env_ok mixed tab_ok eqs_ok (.cons sem45 (.cons sem66 (.cons sem44 .nil)))
theorem is59 : FnIs Try.prog 59 (Γ59 K45 G45 K66 G66 K44 G44) (bodyOf Try.f59) := fnIs Try.func59 rfl rfl rfl (by kernel_rfl) (noLoops (by kernel_rfl))
theorem sem59 : SemOK Try.prog (59, sgMean true I59 O59 K59 G59) := sg_opt env59 is59 true fun x => ev59 K45 G45 K66 G66 K44 G44 x

/- "loop.example/g03321/spec.l05Time" mode S true -/
abbrev I60 : Sg := ⟨[.ptr 0, .val (S48)], [.box (S98)]⟩
abbrev O60 : Sg := ⟨[.val (.int .i64)], [.box (S98)]⟩
noncomputable def Γ60 (k45 : I45.den → Bool) (g45 : I45.den → O45.den) (k76 : I76.den → Bool) (g76 : I76.den → O76.den) (k66 : I66.den → Bool) (g66 : I66.den → O66.den) : Env := mkEnv tab eqs [(45, sgMean true I45 O45 k45 g45), (76, sgMean true I76 O76 k76 g76), (66, sgMean true I66 O66 k66 g66)] 45 [.tmp 4] [] [] [] [] []
def r60 (k45 : I45.den → Bool) (g45 : I45.den → O45.den) (k76 : I76.den → Bool) (g76 : I76.den → O76.den) (k66 : I66.den → Bool) (g66 : I66.den → O66.den) (x : I60.den) : Option (O60.den) :=
  bif ((↑(List.length x.fst.snd.fst.snd.fst) : Int) == 0) then
    let v0 := (List.set (List.replicate 5 (zero (Ty.int IntKind.i64))) 0 (-1))
    let v1 := (List.set v0 1 0)
    let v2 := (List.set v1 2 10000000)
    let v3 := (List.set v2 3 10000001)
    let v4 := (List.set v3 4 9223372036854775807)
    let v5 := (k76 (((), (), ()), x.snd.fst, v4, ()))
    bif (v5) then
      let v6 := (g76 (((), (), ()), x.snd.fst, v4, ()))
      some (((v6.fst.1), ()), (((v6.snd.fst.1), ((v6.snd.fst.snd.1), ((v6.snd.fst.snd.snd.1), ()))), ()))
    else
      none
  else
    let v0 := (k45 (((), 15, ()), x.snd))
    bif (v0) then
      let v1 := (g45 (((), 15, ()), x.snd))
      bif (v1.fst.1) then
        let v2 := (List.set (List.replicate 5 (zero (Ty.int IntKind.i64))) 0 (-1))
        let v3 := (List.set v2 1 0)
        let v4 := (List.set v3 2 10000000)
        let v5 := (List.set v4 3 10000001)
        let v6 := (List.set v5 4 9223372036854775807)
        let v7 := (k76 (((), (), ()), v1.snd.fst, v6, ()))
        bif (v7) then
          let v8 := (g76 (((), (), ()), v1.snd.fst, v6, ()))
          some (((v8.fst.1), ()), (((v8.snd.fst.1), ((v8.snd.fst.snd.1), ((v8.snd.fst.snd.snd.1), ()))), ()))
        else
          none
      else
        let v2 := (k66 (((), (↑(List.length x.fst.snd.fst.snd.fst) : Int), ()), v1.snd))
        bif (v2) then
          let v3 := (g66 (((), (↑(List.length x.fst.snd.fst.snd.fst) : Int), ()), v1.snd))
          bif (decide (0 ≤ v3.fst.fst) && decide (v3.fst.fst < (↑(List.length x.fst.snd.fst.snd.fst) : Int))) then
            let v4 := (k66 (((), 4, ()), v3.snd))
            bif (v4) then
              let v5 := (g66 (((), 4, ()), v3.snd))
              bif (v5.fst.fst == 0) then
                let v6 := (k66 (((), 15, ()), v5.snd))
                bif (v6) then
                  let v7 := (List.getD x.fst.snd.fst.snd.fst (Int.toNat v3.fst.fst) (zero (Ty.int IntKind.i64)))
                  let v8 := (g66 (((), 15, ()), v5.snd))
                  let v9 := (IntKind.wrap IntKind.i64 (v8.fst.fst - 7))
                  let v10 := (IntKind.wrap IntKind.i64 (v9 * 3600))
                  let v11 := (IntKind.wrap IntKind.i64 (v7 + v10))
                  some (((v11), ()), (((v8.snd.fst.1), ((v8.snd.fst.snd.1), ((v8.snd.fst.snd.snd.1), ()))), ()))
                else
                  none
              else
                bif (v5.fst.fst == 1) then
                  let v6 := (List.getD x.fst.snd.fst.snd.fst (Int.toNat v3.fst.fst) (zero (Ty.int IntKind.i64)))
                  let v7 := (IntKind.wrap IntKind.i64 (v6 + 10800))
                  some (((v7), ()), (((v5.snd.fst.1), ((v5.snd.fst.snd.1), ((v5.snd.fst.snd.snd.1), ()))), ()))
                else
                  let v6 := (k66 (((), 50001, ()), v5.snd))
                  bif (v6) then
                    let v7 := (List.getD x.fst.snd.fst.snd.fst (Int.toNat v3.fst.fst) (zero (Ty.int IntKind.i64)))
                    let v8 := (g66 (((), 50001, ()), v5.snd))
                    let v9 := (IntKind.wrap IntKind.i64 (v7 + v8.fst.fst))
                    let v10 := (IntKind.wrap IntKind.i64 (v9 - 25000))
                    some (((v10), ()), (((v8.snd.fst.1), ((v8.snd.fst.snd.1), ((v8.snd.fst.snd.snd.1), ()))), ()))
                  else
                    none
            else
              none
          else
            none
        else
          none
    else
      none
theorem ev60 (k45 : I45.den → Bool) (g45 : I45.den → O45.den) (k76 : I76.den → Bool) (g76 : I76.den → O76.den) (k66 : I66.den → Bool) (g66 : I66.den → O66.den) (x : I60.den) : callS (Γ60 k45 g45 k76 g76 k66 g66) (bodyOf Try.f60) I60 O60 x = r60 k45 g45 k76 g76 k66 g66 x := by kernel_rfl
def F60 (x : I60.den) : Option (O60.den) := r60 K45 G45 K76 G76 K66 G66 x
def K60 (x : I60.den) : Bool := (F60 x).isSome
def G60 (x : I60.den) : O60.den := (F60 x).getD (zeroSg O60)
theorem env60 : EnvOK Try.prog (Γ60 K45 G45 K76 G76 K66 G66) := env_ok mixed tab_ok eqs_ok (.cons sem45 (.cons sem76 (.cons sem66 .nil)))
theorem is60 : FnIs Try.prog 60 (Γ60 K45 G45 K76 G76 K66 G66) (bodyOf Try.f60) := fnIs Try.func60 rfl rfl rfl (by kernel_rfl) (noLoops (by kernel_rfl))
theorem sem60 : SemOK Try.prog (60, sgMean true I60 O60 K60 G60) := sg_opt env60 is60 true fun x => ev60 K45 G45 K76 G76 K66 G66 x

/- "loop.example/g03321/spec.l02Degrees" mode S true -/
abbrev I46 : Sg := ⟨[.ptr 0], [.box (S98)]⟩
abbrev O46 : Sg := ⟨[.val (.int .i64)], [.box (S98)]⟩
noncomputable def Γ46 (k45 : I45.den → Bool) (g45 : I45.den → O45.den) (k75 : I75.den → Bool) (g75 : I75.den → O75.den) (k66 : I66.den → Bool) (g66 : I66.den → O66.den) : Env := mkEnv tab eqs [(45, sgMean true I45 O45 k45 g45), (75, sgMean true I75 O75 k75 g75), (66, sgMean true I66 O66 k66 g66)] 11 [.tmp 2] [] [] [] [] []
def r46 (k45 : I45.den → Bool) (g45 : I45.den → O45.den) (k75 : I75.den → Bool) (g75 : I75.den → O75.den) (k66 : I66.den → Bool) (g66 : I66.den → O66.den) (x : I46.den) : Option (O46.den) :=
  let v0 := (k45 (((), 12, ()), x.snd))
  bif (v0) then
    let v1 := (g45 (((), 12, ()), x.snd))
    bif (v1.fst.1) then
      let v2 := (k75 (((), ()), v1.snd))
      bif (v2) then
        let v3 := (g75 (((), ()), v1.snd))
        let v4 := (IntKind.wrap IntKind.i64 (Int.tdiv v3.fst.fst 2))
        let v5 := (IntKind.wrap IntKind.i64 (v4 - 200))
        some (((v5), ()), (((v3.snd.fst.1), ((v3.snd.fst.snd.1), ((v3.snd.fst.snd.snd.1), ()))), ()))
      else
        none
    else
      let v2 := (k66 (((), 360, ()), v1.snd))
      bif (v2) then
        let v3 := (g66 (((), 360, ()), v1.snd))
        some (((v3.fst.1), ()), (((v3.snd.fst.1), ((v3.snd.fst.snd.1), ((v3.snd.fst.snd.snd.1), ()))), ()))
      else
        none
  else
    none
theorem ev46 (k45 : I45.den → Bool) (g45 : I45.den → O45.den) (k75 : I75.den → Bool) (g75 : I75.den → O75.den) (k66 : I66.den → Bool) (g66 : I66.den → O66.den) (x : I46.den) : callS (Γ46 k45 g45 k75 g75 k66 g66) (bodyOf Try.f46) I46 O46 x = r46 k45 g45 k75 g75 k66 g66 x := by kernel_rfl
def F46 (x : I46.den) : Option (O46.den) := r46 K45 G45 K75 G75 K66 G66 x
def K46 (x : I46.den) : Bool := (F46 x).isSome
def G46 (x : I46.den) : O46.den := (F46 x).getD (zeroSg O46)
theorem env46 : EnvOK Try.prog (Γ46 K45 G45 K75 G75 K66 G66) := env_ok mixed tab_ok eqs_ok (.cons sem45 (.cons sem75 (.cons sem66 .nil)))
theorem is46 : FnIs Try.prog 46 (Γ46 K45 G45 K75 G75 K66 G66) (bodyOf Try.f46) := fnIs Try.func46 rfl rfl rfl (by kernel_rfl) (noLoops (by kernel_rfl))
theorem sem46 : SemOK Try.prog (46, sgMean true I46 O46 K46 G46) := sg_opt env46 is46 true fun x => ev46 K45 G45 K75 G75 K66 G66 x

/- "loop.example/g03321/spec.l06Speed" mode S true -/
abbrev I108 : Sg := ⟨[.ptr 0], [.box (S98)]⟩
abbrev O108 : Sg := ⟨[.val (.flt .f32)], [.box (S98)]⟩
noncomputable def Γ108 (k66 : I66.den → Bool) (g66 : I66.den → O66.den) (k107 : I107.den → Bool) (g107 : I107.den → O107.den) : Env := mkEnv tab eqs [(66, sgMean true I66 O66 k66 g66), (107, sgMean true I107 O107 k107 g107)] 17 [.tmp 2] [] [] [] [] []
def r108 (k66 : I66.den → Bool) (g66 : I66.den → O66.den) (k107 : I107.den → Bool) (g107 : I107.den → O107.den) (x : I108.den) : Option (O108.den) :=
  let v0 := (k66 (((), 16, ()), x.snd))
  bif (v0) then
    let v1 := (g66 (((), 16, ()), x.snd))
    bif (v1.fst.fst == 0) then
      let v2 := (k107 (((), 60, ()), v1.snd))
      bif (v2) then
        let v3 := (g107 (((), 60, ()), v1.snd))
        some (((v3.fst.1), ()), (((v3.snd.fst.1), ((v3.snd.fst.snd.1), ((v3.snd.fst.snd.snd.1), ()))), ()))
      else
        none
    else
      bif (v1.fst.fst == 1) then
        some (((0), ()), (((v1.snd.fst.1), ((v1.snd.fst.snd.1), ((v1.snd.fst.snd.snd.1), ()))), ()))
      else
        bif (v1.fst.fst == 2) then
          some (((1112014848), ()), (((v1.snd.fst.1), ((v1.snd.fst.snd.1), ((v1.snd.fst.snd.snd.1), ()))), ()))
        else
          let v2 := (k66 (((), 161, ()), v1.snd))
          bif (v2) then
            let v3 := (g66 (((), 161, ()), v1.snd))
            let v4 := (farith BinOp.quo FloatKind.f32 (FloatKind.nearest FloatKind.f32 v3.fst.fst) 1098907648)
            some (((v4), ()), (((v3.snd.fst.1), ((v3.snd.fst.snd.1), ((v3.snd.fst.snd.snd.1), ()))), ()))
          else
            none
  else
    none
theorem ev108 (k66 : I66.den → Bool) (g66 : I66.den → O66.den) (k107 : I107.den → Bool) (g107 : I107.den → O107.den) (x : I108.den) : callS (Γ108 k66 g66 k107 g107) (bodyOf Try.f108) I108 O108 x = r108 k66 g66 k107 g107 x := by kernel_rfl
def F108 (x : I108.den) : Option (O108.den) := r108 K66 G66 K107 G107 x
def K108 (x : I108.den) : Bool := (F108 x).isSome
def G108 (x : I108.den) : O108.den := (F108 x).getD (zeroSg O108)
theorem env108 : EnvOK Try.prog (Γ108 K66 G66 K107 G107) := env_ok mixed tab_ok eqs_ok (.cons sem66 (.cons sem107 .nil))
theorem is108 : FnIs Try.prog 108 (Γ108 K66 G66 K107 G107) (bodyOf Try.f108) := fnIs Try.func108 rfl rfl rfl (by kernel_rfl) (noLoops (by kernel_rfl))
theorem sem108 : SemOK Try.prog (108, sgMean true I108 O108 K108 G108) := sg_opt env108 is108 true fun x => ev108 K66 G66 K107 G107 x

/- "loop.example/g03321/spec.l07Leg" mode S true -/
abbrev I91 : Sg := ⟨[.ptr 0], [.box (S98)]⟩
abbrev O91 : Sg := ⟨[.val (S53)], [.box (S98)]⟩
noncomputable def Γ91 (k46 : I46.den → Bool) (g46 : I46.den → O46.den) (k108 : I108.den → Bool) (g108 : I108.den → O108.den) (k66 : I66.den → Bool) (g66 : I66.den → O66.den) (k76 : I76.den → Bool) (g76 : I76.den → O76.den) : Env := mkEnv tab eqs [(46, sgMean true I46 O46 k46 g46), (108, sgMean true I108 O108 k108 g108), (66, sgMean true I66 O66 k66 g66), (76, sgMean true I76 O76 k76 g76)] 26 [.cell 2 54] [] [] [] [] []
def r91 (k46 : I46.den → Bool) (g46 : I46.den → O46.den) (k108 : I108.den → Bool) (g108 : I108.den → O108.den) (k66 : I66.den → Bool) (g66 : I66.den → O66.den) (k76 : I76.den → Bool) (g76 : I76.den → O76.den) (x : I91.den) : Option (O91.den) :=
  let v0 := (k46 (((), ()), x.snd))
  bif (v0) then
    let v1 := (g46 (((), ()), x.snd))
    let v2 := (k108 (((), ()), v1.snd))
    bif (v2) then
      let v3 := (g108 (((), ()), v1.snd))
      let v4 := (k66 (((), 4000, ()), v3.snd))
      bif (v4) then
        let v5 := (g66 (((), 4000, ()), v3.snd))
        let v6 := (k66 (((), 14, ()), v5.snd))
        bif (v6) then
          let v7 := (g66 (((), 14, ()), v5.snd))
          bif (v7.fst.fst == 0) then
            let v8 := (List.set (List.replicate 5 (zero (Ty.int IntKind.i64))) 0 (-1))
            let v9 := (List.set v8 1 0)
            let v10 := (List.set v9 2 600)
            let v11 := (List.set v10 3 100000)
            let v12 := (List.set v11 4 100001)
            let v13 := (k76 (((), (), ()), v7.snd.fst, v12, ()))
            bif (v13) then
              let v14 := (g76 (((), (), ()), v7.snd.fst, v12, ()))
              some ((((v1.fst.1), ((v3.fst.1), ((v14.fst.1), ()))), ()), (((v14.snd.fst.1), ((v14.snd.fst.snd.1), ((v14.snd.fst.snd.snd.1), ()))), ()))
            else
              none
          else
            bif (v7.fst.fst == 1) then
              let v8 := (k66 (((), 5, ()), v7.snd))
              bif (v8) then
                let v9 := (g66 (((), 5, ()), v7.snd))
                let v10 := (IntKind.wrap IntKind.i64 (600 * v9.fst.fst))
                some ((((v1.fst.1), ((v3.fst.1), ((v10), ()))), ()), (((v9.snd.fst.1), ((v9.snd.fst.snd.1), ((v9.snd.fst.snd.snd.1), ()))), ()))
              else
                none
            else
              some ((((v1.fst.1), ((v3.fst.1), ((v5.fst.1), ()))), ()), (((v7.snd.fst.1), ((v7.snd.fst.snd.1), ((v7.snd.fst.snd.snd.1), ()))), ()))
        else
          none
      else
        none
    else
      none
  else
    none
theorem ev91 (k46 : I46.den → Bool) (g46 : I46.den → O46.den) (k108 : I108.den → Bool) (g108 : I108.den → O108.den) (k66 : I66.den → Bool) (g66 : I66.den → O66.den) (k76 : I76.den → Bool) (g76 : I76.den → O76.den) (x : I91.den) : callS (Γ91 k46 g46 k108 g108 k66 g66 k76 g76) (bodyOf Try.f91) I91 O91 x = r91 k46 g46 k108 g108 k66 g66 k76 g76 x := by kernel_rfl
def F91 (x : I91.den) : Option (O91.den) := r91 K46 G46 K108 G108 K66 G66 K76 G76 x
def K91 (x : I91.den) : Bool := (F91 x).isSome
def G91 (x : I91.den) : O91.den := (F91 x).getD (zeroSg O91)
theorem env91 : EnvOK Try.prog (Γ91 K46 G46 K108 G108 K66 G66 K76 G76) := env_ok mixed tab_ok eqs_ok (.cons sem46 (.cons sem108 (.cons sem66 (.cons sem76 .nil))))
theorem is91 : FnIs Try.prog 91 (Γ91 K46 G46 K108 G108 K66 G66 K76 G76) (bodyOf Try.f91) := fnIs Try.func91 rfl rfl rfl (by kernel_rfl) (noLoops (by kernel_rfl))
theorem sem91 : SemOK Try.prog (91, sgMean true I91 O91 K91 G91) := sg_opt env91 is91 true fun x => ev91 K46 G46 K108 G108 K66 G66 K76 G76 x

/- "loop.example/g03321/spec.l07Some" mode S true -/
abbrev I61 : Sg := ⟨[.ptr 0], [.box (S98)]⟩
abbrev O61 : Sg := ⟨[.own (S53) 1], [.box (S98), .arr (S53)]⟩
abbrev V61_5 : Type := ((Unit × (Unit × (Int × Unit))) × (((List (Den (.int .u8))) × (Int × (Int × Unit))) × ((List (Den (S53))) × Unit)))
def sh61_5 : ShS := ⟨[(0, .one (.ptr 0 0)), (3, .one (.ref (S53) 1)), (4, .one (.int .i64))], [(0, .box [.sl (.int .u8), .int .i64, .int .i64]), (1, .arr (S53))], 2, 1⟩
abbrev X61_5 : Type := ((Unit × Unit) × (((List (Den (.int .u8))) × (Int × (Int × Unit))) × ((List (Den (S53))) × Unit)))
def shX61_5 : ShS := ⟨[(3, .one (.ref (S53) 1))], [(0, .box [.sl (.int .u8), .int .i64, .int .i64]), (1, .arr (S53))], 2, 1⟩
noncomputable def Γ61 (k66 : I66.den → Bool) (g66 : I66.den → O66.den) (k45 : I45.den → Bool) (g45 : I45.den → O45.den) (k91 : I91.den → Bool) (g91 : I91.den → O91.den) (kl5 : V61_5 → Bool) (xl5 : V61_5 → X61_5) : Env := mkEnv tab eqs [(66, sgMean true I66 O66 k66 g66), (45, sgMean true I45 O45 k45 g45), (91, sgMean true I91 O91 k91 g91)] 23 [.tmp 2] [] [] [(5, loopX [0, 3, 4] [] 0 [3] [] sh61_5 shX61_5 kl5 xl5)] [] []
noncomputable def lc61_5 : Code := (loopsOf (bodyOf Try.f61)).getD 0 .skip
def q61_5 (k66 : I66.den → Bool) (g66 : I66.den → O66.den) (k45 : I45.den → Bool) (g45 : I45.den → O45.den) (k91 : I91.den → Bool) (g91 : I91.den → O91.den) (f : V61_5 → Option (X61_5)) (v : V61_5) : Option (X61_5) :=
  bif (decide (v.fst.snd.snd.fst > 0)) then
    let v0 := (k91 (((), ()), v.snd.fst, ()))
    bif (v0) then
      let v1 := (g91 (((), ()), v.snd.fst, ()))
      let v2 := (List.set (List.replicate 1 (zero S53)) 0 v1.fst.fst)
      bif (capOk (List.length v.snd.snd.fst + List.length v2)) then
        let v3 := (IntKind.wrap IntKind.i64 (v.fst.snd.snd.fst - 1))
        let v4 := (v.snd.snd.fst ++ v2)
        f (((), ((), ((v3), ()))), (((v1.snd.fst.1), ((v1.snd.fst.snd.1), ((v1.snd.fst.snd.snd.1), ()))), ((v4), ())))
      else
        none
    else
      none
  else
    some (((), ()), (((v.snd.fst.1), ((v.snd.fst.snd.1), ((v.snd.fst.snd.snd.1), ()))), ((v.snd.snd.1), ())))
theorem evl61_5 (k66 : I66.den → Bool) (g66 : I66.den → O66.den) (k45 : I45.den → Bool) (g45 : I45.den → O45.den) (k91 : I91.den → Bool) (g91 : I91.den → O91.den) (kl5 : V61_5 → Bool) (xl5 : V61_5 → X61_5) (f : V61_5 → Option (X61_5)) (v : V61_5) : EBk (Γ61 k66 g66 k45 g45 k91 g91 kl5 xl5) lc61_5 (roundK [0, 3, 4] [] 0 [3] [] (atS sh61_5 f) (endX shX61_5)) (mkS sh61_5 v) = q61_5 k66 g66 k45 g45 k91 g91 f v := by kernel_rfl
def b61_5 (v : V61_5) : Nat := v.1.2.2.1.natAbs + v.2.1.1.length + v.2.1.2.1.natAbs + v.2.1.2.2.1.natAbs + v.2.2.1.length + 1000
def l61_5 (v : V61_5) : Option (X61_5) := iter (q61_5 K66 G66 K45 G45 K91 G91) (b61_5 v) v
def kL61_5 (v : V61_5) : Bool := (l61_5 v).isSome
def xL61_5 (v : V61_5) : X61_5 := (l61_5 v).getD (((), ()), (([], (0, (0, ()))), ([], ())))
def r61 (k66 : I66.den → Bool) (g66 : I66.den → O66.den) (k45 : I45.den → Bool) (g45 : I45.den → O45.den) (k91 : I91.den → Bool) (g91 : I91.den → O91.den) (kl5 : V61_5 → Bool) (xl5 : V61_5 → X61_5) (x : I61.den) : Option (O61.den) :=
  let v0 := (k66 (((), 5, ()), x.snd))
  bif (v0) then
    let v1 := (g66 (((), 5, ()), x.snd))
    let v2 := (k45 (((), 40, ()), v1.snd))
    bif (v2) then
      let v3 := (g45 (((), 40, ()), v1.snd))
      bif (v3.fst.1) then
        let v4 := (k66 (((), 2, ()), v3.snd))
        bif (v4) then
          let v5 := (g66 (((), 2, ()), v3.snd))
          let v6 := (IntKind.wrap IntKind.i64 (50 + v5.fst.fst))
          let v7 := (kl5 (((), (), v6, ()), v5.snd.fst, List.replicate 0 (zero S53), ()))
          bif (v7) then
            let v8 := (xl5 (((), (), v6, ()), v5.snd.fst, List.replicate 0 (zero S53), ()))
            some (((), ()), (((v8.snd.fst.1), ((v8.snd.fst.snd.1), ((v8.snd.fst.snd.snd.1), ()))), ((v8.snd.snd.1), ())))
          else
            none
        else
          none
      else
        let v4 := (kl5 (((), (), v1.fst), v3.snd.fst, List.replicate 0 (zero S53), ()))
        bif (v4) then
          let v5 := (xl5 (((), (), v1.fst), v3.snd.fst, List.replicate 0 (zero S53), ()))
          some (((), ()), (((v5.snd.fst.1), ((v5.snd.fst.snd.1), ((v5.snd.fst.snd.snd.1), ()))), ((v5.snd.snd.1), ())))
        else
          none
    else
      none
  else
    none
theorem ev61 (k66 : I66.den → Bool) (g66 : I66.den → O66.den) (k45 : I45.den → Bool) (g45 : I45.den → O45.den) (k91 : I91.den → Bool) (g91 : I91.den → O91.den) (kl5 : V61_5 → Bool) (xl5 : V61_5 → X61_5) (x : I61.den) : callS (Γ61 k66 g66 k45 g45 k91 g91 kl5 xl5) (bodyOf Try.f61) I61 O61 x = r61 k66 g66 k45 g45 k91 g91 kl5 xl5 x := by kernel_rfl
def F61 (x : I61.den) : Option (O61.den) := r61 K66 G66 K45 G45 K91 G91 kL61_5 xL61_5 x
def K61 (x : I61.den) : Bool := (F61 x).isSome
def G61 (x : I61.den) : O61.den := (F61 x).getD (zeroSg O61)
theorem env61 : EnvOK Try.prog (Γ61 K66 G66 K45 G45 K91 G91 kL61_5 xL61_5) := env_ok mixed tab_ok eqs_ok (.cons sem66 (.cons sem45 (.cons sem91 .nil)))
theorem is61 : FnIs Try.prog 61 (Γ61 K66 G66 K45 G45 K91 G91 kL61_5 xL61_5) (bodyOf Try.f61) := fnIs Try.func61 rfl rfl rfl (by kernel_rfl) (loops_ok (l := [lc61_5]) (by kernel_rfl) (.cons (one_loop rfl (loopX_sound (sh := sh61_5) (shX := shX61_5) (fun f v => evl61_5 K66 G66 K45 G45 K91 G91 kL61_5 xL61_5 f v) b61_5 (((), ()), (([], (0, (0, ()))), ([], ()))))) (.nil)))
theorem sem61 : SemOK Try.prog (61, sgMean true I61 O61 K61 G61) := sg_opt env61 is61 true fun x => ev61 K66 G66 K45 G45 K91 G91 kL61_5 xL61_5 x

/- "loop.example/g03321/spec.DrawRunTide" mode S false -/
abbrev I20 : Sg := ⟨[.val (.slice (.int .u8))], []⟩
abbrev O20 : Sg := ⟨[.val (.cpx .f64), .val (.int .i64), .own (S53) 0, .val (S48)], [.arr (S53)]⟩
noncomputable def Γ20 (k30 : I30.den → Bool) (g30 : I30.den → O30.den) (k58 : I58.den → Bool) (g58 : I58.den → O58.den) (k59 : I59.den → Bool) (g59 : I59.den → O59.den) (k60 : I60.den → Bool) (g60 : I60.den → O60.den) (k61 : I61.den → Bool) (g61 : I61.den → O61.den) : Env := mkEnv tab eqs [(30, sgMean false I30 O30 k30 g30), (58, sgMean true I58 O58 k58 g58), (59, sgMean true I59 O59 k59 g59), (60, sgMean true I60 O60 k60 g60), (61, sgMean true I61 O61 k61 g61)] 25 [.tmp 2, .tmp 3, .tmp 4, .cell 5 49] [] [] [] [] []
def r20 (k30 : I30.den → Bool) (g30 : I30.den → O30.den) (k58 : I58.den → Bool) (g58 : I58.den → O58.den) (k59 : I59.den → Bool) (g59 : I59.den → O59.den) (k60 : I60.den → Bool) (g60 : I60.den → O60.den) (k61 : I61.den → Bool) (g61 : I61.den → O61.den) (x : I20.den) : Option (O20.den) :=
  let v0 := (k30 x)
  bif (v0) then
    let v1 := (g30 x)
    let v2 := (k58 (((), ()), v1.snd))
    bif (v2) then
      let v3 := (g58 (((), ()), v1.snd))
      let v4 := (k59 (((), v3.fst), v3.snd))
      bif (v4) then
        let v5 := (g59 (((), v3.fst), v3.snd))
        let v6 := (k60 (((), v3.fst), v5.snd))
        bif (v6) then
          let v7 := (g60 (((), v3.fst), v5.snd))
          let v8 := (k61 (((), ()), v7.snd))
          bif (v8) then
            let v9 := (g61 (((), ()), v7.snd))
            some ((((v5.fst.fst.1), (v5.fst.fst.2)), ((v7.fst.1), ((), (((v3.fst.fst.1), ((v3.fst.fst.snd.1), ())), ())))), ((v9.snd.snd.1), ()))
          else
            none
        else
          none
      else
        none
    else
      none
  else
    none
theorem ev20 (k30 : I30.den → Bool) (g30 : I30.den → O30.den) (k58 : I58.den → Bool) (g58 : I58.den → O58.den) (k59 : I59.den → Bool) (g59 : I59.den → O59.den) (k60 : I60.den → Bool) (g60 : I60.den → O60.den) (k61 : I61.den → Bool) (g61 : I61.den → O61.den) (x : I20.den) : callS (Γ20 k30 g30 k58 g58 k59 g59 k60 g60 k61 g61) (bodyOf Try.f20) I20 O20 x = r20 k30 g30 k58 g58 k59 g59 k60 g60 k61 g61 x := by kernel_rfl
def F20 (x : I20.den) : Option (O20.den) := r20 K30 G30 K58 G58 K59 G59 K60 G60 K61 G61 x
def K20 (x : I20.den) : Bool := (F20 x).isSome
def G20 (x : I20.den) : O20.den := (F20 x).getD (zeroSg O20)
theorem env20 : EnvOK Try.prog (Γ20 K30 G30 K58 G58 K59 G59 K60 G60 K61 G61) := env_ok mixed tab_ok eqs_ok (.cons sem30 (.cons sem58 (.cons sem59 (.cons sem60 (.cons sem61 .nil)))))
theorem is20 : FnIs Try.prog 20 (Γ20 K30 G30 K58 G58 K59 G59 K60 G60 K61 G61) (bodyOf Try.f20) := fnIs Try.func20 rfl rfl rfl (by kernel_rfl) (noLoops (by kernel_rfl))
theorem sem20 : SemOK Try.prog (20, sgMean false I20 O20 K20 G20) := sg_opt env20 is20 false fun x => ev20 K30 G30 K58 G58 K59 G59 K60 G60 K61 G61 x

/- "loop.example/g03321/spec.DrawSlackFrom" -/
abbrev A25 : Ty := .cons (.slice (.int .u8)) (.nil)
abbrev R25 : Ty := .cons (S48) (.cons (.cpx .f64) (.cons (.int .i64) (.cons (.flt .f32) (.nil))))
noncomputable def Γ25 (k30 : I30.den → Bool) (g30 : I30.den → O30.den) (k58 : I58.den → Bool) (g58 : I58.den → O58.den) (k59 : I59.den → Bool) (g59 : I59.den → O59.den) (k60 : I60.den → Bool) (g60 : I60.den → O60.den) (k45 : I45.den → Bool) (g45 : I45.den → O45.den) (k66 : I66.den → Bool) (g66 : I66.den → O66.den) : Env := mkEnv tab eqs [(30, sgMean false I30 O30 k30 g30), (58, sgMean true I58 O58 k58 g58), (59, sgMean true I59 O59 k59 g59), (60, sgMean true I60 O60 k60 g60), (45, sgMean true I45 O45 k45 g45), (66, sgMean true I66 O66 k66 g66)] 33 [.cell 2 49, .tmp 3, .tmp 4, .tmp 5] [] [] [] [] []
def r25 (k30 : I30.den → Bool) (g30 : I30.den → O30.den) (k58 : I58.den → Bool) (g58 : I58.den → O58.den) (k59 : I59.den → Bool) (g59 : I59.den → O59.den) (k60 : I60.den → Bool) (g60 : I60.den → O60.den) (k45 : I45.den → Bool) (g45 : I45.den → O45.den) (k66 : I66.den → Bool) (g66 : I66.den → O66.den) (x : Den A25) : Option (Den R25) :=
  let v0 := (k30 (x, ()))
  bif (v0) then
    let v1 := (g30 (x, ()))
    let v2 := (k58 (((), ()), v1.snd))
    bif (v2) then
      let v3 := (g58 (((), ()), v1.snd))
      let v4 := (k59 (((), v3.fst), v3.snd))
      bif (v4) then
        let v5 := (g59 (((), v3.fst), v3.snd))
        let v6 := (k60 (((), v3.fst), v5.snd))
        bif (v6) then
          let v7 := (g60 (((), v3.fst), v5.snd))
          let v8 := (k45 (((), 10, ()), v7.snd))
          bif (v8) then
            let v9 := (g45 (((), 10, ()), v7.snd))
            bif (v9.fst.1) then
              let v10 := (k66 (((), 800, ()), v9.snd))
              bif (v10) then
                let v11 := (g66 (((), 800, ()), v9.snd))
                let v12 := (k66 (((), 20, ()), v11.snd))
                bif (v12) then
                  let v13 := (IntKind.wrap IntKind.i64 (-60 * v11.fst.fst))
                  let v14 := (g66 (((), 20, ()), v11.snd))
                  let v15 := (IntKind.wrap IntKind.i64 (v14.fst.fst - 1))
                  let v16 := (farith BinOp.quo FloatKind.f32 (FloatKind.nearest FloatKind.f32 v15) 1098907648)
                  some (((v3.fst.fst.1), ((v3.fst.fst.snd.1), ())), (((v5.fst.fst.1), (v5.fst.fst.2)), ((v13), ((v16), ()))))
                else
                  none
              else
                none
            else
              let v10 := (k66 (((), 20, ()), v9.snd))
              bif (v10) then
                let v11 := (g66 (((), 20, ()), v9.snd))
                let v12 := (IntKind.wrap IntKind.i64 (v11.fst.fst - 1))
                let v13 := (farith BinOp.quo FloatKind.f32 (FloatKind.nearest FloatKind.f32 v12) 1098907648)
                some (((v3.fst.fst.1), ((v3.fst.fst.snd.1), ())), (((v5.fst.fst.1), (v5.fst.fst.2)), ((v7.fst.1), ((v13), ()))))
              else
                none
          else
            none
        else
          none
      else
        none
    else
      none
  else
    none
theorem ev25 (k30 : I30.den → Bool) (g30 : I30.den → O30.den) (k58 : I58.den → Bool) (g58 : I58.den → O58.den) (k59 : I59.den → Bool) (g59 : I59.den → O59.den) (k60 : I60.den → Bool) (g60 : I60.den → O60.den) (k45 : I45.den → Bool) (g45 : I45.den → O45.den) (k66 : I66.den → Bool) (g66 : I66.den → O66.den) (x : Den A25) : callK (Γ25 k30 g30 k58 g58 k59 g59 k60 g60 k45 g45 k66 g66) (bodyOf Try.f25) (decR R25) (encA A25 x) [] = r25 k30 g30 k58 g58 k59 g59 k60 g60 k45 g45 k66 g66 x := by kernel_rfl
def F25 (x : Den A25) : Option (Den R25) := r25 K30 G30 K58 G58 K59 G59 K60 G60 K45 G45 K66 G66 x
def K25 (x : Den A25) : Bool := (F25 x).isSome
def G25 (x : Den A25) : Den R25 := (F25 x).getD (zero R25)
theorem env25 : EnvOK Try.prog (Γ25 K30 G30 K58 G58 K59 G59 K60 G60 K45 G45 K66 G66) := env_ok mixed tab_ok eqs_ok (.cons sem30 (.cons sem58 (.cons sem59 (.cons sem60 (.cons sem45 (.cons sem66 .nil))))))
theorem is25 : FnIs Try.prog 25 (Γ25 K30 G30 K58 G58 K59 G59 K60 G60 K45 G45 K66 G66) (bodyOf Try.f25) := fnIs Try.func25 rfl rfl rfl (by kernel_rfl) (noLoops (by kernel_rfl))
theorem sem25 : SemOK Try.prog (25, fnMean A25 R25 K25 G25) := fn_opt env25 is25 fun x => ev25 K30 G30 K58 G58 K59 G59 K60 G60 K45 G45 K66 G66 x

end Go.Proofs.Ytmmdjajebmihhaa.AM

/- What functions of the program make of their arguments; each is what its evaluation says. Printed by fx.py. -/
namespace Go.Proofs.Ytmmdjajebmihhaa.AM
open Go Go.Proofs
set_option linter.unusedVariables false
set_option maxRecDepth 100000
set_option maxHeartbeats 0

/- "loop.example/g03321/impl.boatOk" -/
abbrev A109 : Ty := .cons (.flt .f32) (.nil)
abbrev R109 : Ty := .cons (.bool) (.nil)
noncomputable def Γ109 : Env := mkEnv tab eqs [] 9 [.tmp 2] [] [] [] [] []
def r109 (x : Den A109) : Option (Den R109) :=
  bif (fgt FloatKind.f32 x.fst 0 || feq FloatKind.f32 x.fst 0) then
    some ((flt FloatKind.f32 x.fst 1112014848 || feq FloatKind.f32 x.fst 1112014848), ())
  else
    some ((false), ())
theorem ev109 (x : Den A109) : callK (Γ109) (bodyOf Try.f109) (decR R109) (encA A109 x) [] = r109 x := by kernel_rfl
def F109 (x : Den A109) : Option (Den R109) := r109 x
def K109 (x : Den A109) : Bool := (F109 x).isSome
def G109 (x : Den A109) : Den R109 := (F109 x).getD (zero R109)
theorem env109 : EnvOK Try.prog (Γ109) := env_ok mixed tab_ok eqs_ok .nil
theorem is109 : FnIs Try.prog 109 (Γ109) (bodyOf Try.f109) := fnIs Try.func109 rfl rfl rfl (by kernel_rfl) (noLoops (by kernel_rfl))
theorem sem109 : SemOK Try.prog (109, fnMean A109 R109 K109 G109) := fn_opt env109 is109 fun x => ev109 x

/- "loop.example/g03321/impl.LegOk" -/
abbrev A92 : Ty := .cons (S53) (.nil)
abbrev R92 : Ty := .cons (.bool) (.nil)
noncomputable def Γ92 (k109 : Den A109 → Bool) (g109 : Den A109 → Den R109) (k48 : Den A48 → Bool) (g48 : Den A48 → Den R48) : Env := mkEnv tab eqs [(109, fnMean A109 R109 k109 g109), (48, fnMean A48 R48 k48 g48)] 11 [.tmp 2] [] [] [] [] []
def r92 (k109 : Den A109 → Bool) (g109 : Den A109 → Den R109) (k48 : Den A48 → Bool) (g48 : Den A48 → Den R48) (x : Den A92) : Option (Den R92) :=
  let v0 := (k109 (x.fst.snd.fst, ()))
  bif (v0) then
    let v1 := (g109 (x.fst.snd.fst, ()))
    bif (v1.1) then
      let v2 := (k48 (x.fst.snd.snd.fst, 0, 100000, ()))
      bif (v2) then
        let v3 := (g48 (x.fst.snd.snd.fst, 0, 100000, ()))
        some ((v3.1), ())
      else
        none
    else
      some ((false), ())
  else
    none
theorem ev92 (k109 : Den A109 → Bool) (g109 : Den A109 → Den R109) (k48 : Den A48 → Bool) (g48 : Den A48 → Den R48) (x : Den A92) : callK (Γ92 k109 g109 k48 g48) (bodyOf Try.f92) (decR R92) (encA A92 x) [] = r92 k109 g109 k48 g48 x := by kernel_rfl
def F92 (x : Den A92) : Option (Den R92) := r92 K109 G109 K48 G48 x
def K92 (x : Den A92) : Bool := (F92 x).isSome
def G92 (x : Den A92) : Den R92 := (F92 x).getD (zero R92)
theorem env92 : EnvOK Try.prog (Γ92 K109 G109 K48 G48) := env_ok mixed tab_ok eqs_ok (.cons sem109 (.cons sem48 .nil))
theorem is92 : FnIs Try.prog 92 (Γ92 K109 G109 K48 G48) (bodyOf Try.f92) := fnIs Try.func92 rfl rfl rfl (by kernel_rfl) (noLoops (by kernel_rfl))
theorem sem92 : SemOK Try.prog (92, fnMean A92 R92 K92 G92) := fn_opt env92 is92 fun x => ev92 K109 G109 K48 G48 x

/- "loop.example/g03321/impl.legsOk" -/
abbrev A62 : Ty := .cons (.slice (S53)) (.nil)
abbrev R62 : Ty := .cons (.bool) (.nil)
abbrev V62_2 : Type := (((List (Den (S53))) × ((List (Den (S53))) × (Int × (Int × Unit)))) × Unit)
def sh62_2 : ShS := ⟨[(0, .one (.sl (S53))), (5, .one (.sl (S53))), (6, .one (.int .i64)), (7, .one (.int .i64))], [], 0, 0⟩
abbrev X62_2 : Type := (((List (Den (S53))) × Unit) × Unit)
def shX62_2 : ShS := ⟨[(0, .one (.sl (S53)))], [], 0, 0⟩
abbrev Y62_2 : Type := ((Bool × Unit) × Unit)
def shY62_2 : ShS := ⟨[(2, .one (.bool))], [], 0, 0⟩
noncomputable def Γ62 (k92 : Den A92 → Bool) (g92 : Den A92 → Den R92) (kl2 : V62_2 → Bool) (xl2 : V62_2 → X62_2) (tl2 : V62_2 → Bool) (yl2 : V62_2 → Y62_2) : Env := mkEnv tab eqs [(92, fnMean A92 R92 k92 g92)] 18 [.tmp 2] [] [] [(2, loopR [0, 5, 6, 7] [] 0 [0] [] sh62_2 shX62_2 shY62_2 kl2 tl2 xl2 yl2)] [] []
noncomputable def lc62_2 : Code := (loopsOf (bodyOf Try.f62)).getD 0 .skip
def q62_2 (k92 : Den A92 → Bool) (g92 : Den A92 → Den R92) (f : V62_2 → Option (X62_2 ⊕ Y62_2)) (v : V62_2) : Option (X62_2 ⊕ Y62_2) :=
  bif (decide (v.fst.snd.snd.snd.fst < v.fst.snd.snd.fst)) then
    bif (decide (0 ≤ v.fst.snd.snd.snd.fst) && decide (v.fst.snd.snd.snd.fst < (↑(List.length v.fst.snd.fst) : Int))) then
      let v0 := (List.getD v.fst.snd.fst (Int.toNat v.fst.snd.snd.snd.fst) (zero S53))
      let v1 := (k92 (v0, ()))
      bif (v1) then
        let v2 := (g92 (v0, ()))
        bif (!v2.fst) then
          some (Sum.inr (((false), ()), ()))
        else
          let v3 := (IntKind.wrap IntKind.i64 (v.fst.snd.snd.snd.fst + 1))
          f (((v.fst.1), ((v.fst.snd.1), ((v.fst.snd.snd.1), ((v3), ())))), ())
      else
        none
    else
      none
  else
    some (Sum.inl (((v.fst.1), ()), ()))
theorem evl62_2 (k92 : Den A92 → Bool) (g92 : Den A92 → Den R92) (kl2 : V62_2 → Bool) (xl2 : V62_2 → X62_2) (tl2 : V62_2 → Bool) (yl2 : V62_2 → Y62_2) (f : V62_2 → Option (X62_2 ⊕ Y62_2)) (v : V62_2) : EBk (Γ62 k92 g92 kl2 xl2 tl2 yl2) lc62_2 (roundK [0, 5, 6, 7] [] 0 [0] [] (atS sh62_2 f) (endS shX62_2 shY62_2)) (mkS sh62_2 v) = q62_2 k92 g92 f v := by kernel_rfl
def b62_2 (v : V62_2) : Nat := v.1.1.length + v.1.2.1.length + v.1.2.2.1.natAbs + v.1.2.2.2.1.natAbs + 1000
def l62_2 (v : V62_2) : Option (X62_2 ⊕ Y62_2) := iter (q62_2 K92 G92) (b62_2 v) v
def kL62_2 (v : V62_2) : Bool := (l62_2 v).isSome
def tL62_2 (v : V62_2) : Bool := isR (l62_2 v)
def xL62_2 (v : V62_2) : X62_2 := xOf (([], ()), ()) (l62_2 v)
def yL62_2 (v : V62_2) : Y62_2 := yOf ((false, ()), ()) (l62_2 v)
def r62 (k92 : Den A92 → Bool) (g92 : Den A92 → Den R92) (kl2 : V62_2 → Bool) (xl2 : V62_2 → X62_2) (tl2 : V62_2 → Bool) (yl2 : V62_2 → Y62_2) (x : Den A62) : Option (Den R62) :=
  let v0 := (kl2 ((x.fst, x.fst, (↑(List.length x.fst) : Int), 0, ()), ()))
  bif (v0) then
    let v1 := (tl2 ((x.fst, x.fst, (↑(List.length x.fst) : Int), 0, ()), ()))
    bif (v1) then
      let v2 := (yl2 ((x.fst, x.fst, (↑(List.length x.fst) : Int), 0, ()), ()))
      some ((v2.fst.1), ())
    else
      let v2 := (xl2 ((x.fst, x.fst, (↑(List.length x.fst) : Int), 0, ()), ()))
      some ((decide ((↑(List.length v2.fst.fst) : Int) ≤ 50)), ())
  else
    none
theorem ev62 (k92 : Den A92 → Bool) (g92 : Den A92 → Den R92) (kl2 : V62_2 → Bool) (xl2 : V62_2 → X62_2) (tl2 : V62_2 → Bool) (yl2 : V62_2 → Y62_2) (x : Den A62) : callK (Γ62 k92 g92 kl2 xl2 tl2 yl2) (bodyOf Try.f62) (decR R62) (encA A62 x) [] = r62 k92 g92 kl2 xl2 tl2 yl2 x := by kernel_rfl
def F62 (x : Den A62) : Option (Den R62) := r62 K92 G92 kL62_2 xL62_2 tL62_2 yL62_2 x
def K62 (x : Den A62) : Bool := (F62 x).isSome
def G62 (x : Den A62) : Den R62 := (F62 x).getD (zero R62)
theorem env62 : EnvOK Try.prog (Γ62 K92 G92 kL62_2 xL62_2 tL62_2 yL62_2) := env_ok mixed tab_ok eqs_ok (.cons sem92 .nil)
theorem is62 : FnIs Try.prog 62 (Γ62 K92 G92 kL62_2 xL62_2 tL62_2 yL62_2) (bodyOf Try.f62) := fnIs Try.func62 rfl rfl rfl (by kernel_rfl) (loops_ok (l := [lc62_2]) (by kernel_rfl) (.cons (one_loop rfl (loopR_sound (sh := sh62_2) (shX := shX62_2) (shR := shY62_2) (fun f v => evl62_2 K92 G92 kL62_2 xL62_2 tL62_2 yL62_2 f v) b62_2 (([], ()), ()) ((false, ()), ()))) (.nil)))
theorem sem62 : SemOK Try.prog (62, fnMean A62 R62 K62 G62) := fn_opt env62 is62 fun x => ev62 K92 G92 kL62_2 xL62_2 tL62_2 yL62_2 x

/- "loop.example/g03321/impl.TideOk" -/
abbrev A99 : Ty := .cons (S48) (.nil)
abbrev R99 : Ty := .cons (.bool) (.nil)
abbrev V99_4 : Type := ((Unit × ((List (Den (S96))) × (Int × (Int × Unit)))) × (((List (Den (S96))) × ((List (Den (.int .i64))) × Unit)) × Unit))
def sh99_4 : ShS := ⟨[(1, .one (.ptr 0 0)), (20, .one (.sl (S96))), (21, .one (.int .i64)), (22, .one (.int .i64))], [(0, .box [.sl (S96), .sl (.int .i64)])], 1, 0⟩
abbrev X99_4 : Type := ((Unit × Unit) × (((List (Den (S96))) × ((List (Den (.int .i64))) × Unit)) × Unit))
def shX99_4 : ShS := ⟨[(1, .one (.ptr 0 0))], [(0, .box [.sl (S96), .sl (.int .i64)])], 1, 0⟩
abbrev Y99_4 : Type := ((Bool × Unit) × Unit)
def shY99_4 : ShS := ⟨[(2, .one (.bool))], [], 0, 0⟩
abbrev V99_10 : Type := ((Unit × ((List (Den (.int .i64))) × (Int × (Int × Unit)))) × (((List (Den (S96))) × ((List (Den (.int .i64))) × Unit)) × Unit))
def sh99_10 : ShS := ⟨[(1, .one (.ptr 0 0)), (38, .one (.sl (.int .i64))), (39, .one (.int .i64)), (40, .one (.int .i64))], [(0, .box [.sl (S96), .sl (.int .i64)])], 1, 0⟩
abbrev X99_10 : Type := (Unit × Unit)
def shX99_10 : ShS := ⟨[], [], 0, 0⟩
abbrev Y99_10 : Type := ((Bool × Unit) × Unit)
def shY99_10 : ShS := ⟨[(2, .one (.bool))], [], 0, 0⟩
noncomputable def Γ99 (k48 : Den A48 → Bool) (g48 : Den A48 → Den R48) (k41 : Den A41 → Bool) (g41 : Den A41 → Den R41) (k77 : Den A77 → Bool) (g77 : Den A77 → Den R77) (k37 : Den A37 → Bool) (g37 : Den A37 → Den R37) (kl4 : V99_4 → Bool) (xl4 : V99_4 → X99_4) (tl4 : V99_4 → Bool) (yl4 : V99_4 → Y99_4) (kl10 : V99_10 → Bool) (xl10 : V99_10 → X99_10) (tl10 : V99_10 → Bool) (yl10 : V99_10 → Y99_10) : Env := mkEnv tab eqs [(48, fnMean A48 R48 k48 g48), (41, fnMean A41 R41 k41 g41), (77, fnMean A77 R77 k77 g77), (37, fnMean A37 R37 k37 g37)] 64 [.tmp 2] [] [] [(4, loopR [1, 20, 21, 22] [] 0 [1] [] sh99_4 shX99_4 shY99_4 kl4 tl4 xl4 yl4), (10, loopR [1, 38, 39, 40] [] 2 [] [] sh99_10 shX99_10 shY99_10 kl10 tl10 xl10 yl10)] [] []
noncomputable def lc99_4 : Code := (loopsOf (bodyOf Try.f99)).getD 0 .skip
noncomputable def lc99_10 : Code := (loopsOf (bodyOf Try.f99)).getD 1 .skip
def q99_10 (k48 : Den A48 → Bool) (g48 : Den A48 → Den R48) (k41 : Den A41 → Bool) (g41 : Den A41 → Den R41) (k77 : Den A77 → Bool) (g77 : Den A77 → Den R77) (k37 : Den A37 → Bool) (g37 : Den A37 → Den R37) (f : V99_10 → Option (X99_10 ⊕ Y99_10)) (v : V99_10) : Option (X99_10 ⊕ Y99_10) :=
  bif (decide (v.fst.snd.snd.snd.fst < v.fst.snd.snd.fst)) then
    bif (decide (0 ≤ v.fst.snd.snd.snd.fst) && decide (v.fst.snd.snd.snd.fst < (↑(List.length v.fst.snd.fst) : Int))) then
      let v0 := (List.getD v.fst.snd.fst (Int.toNat v.fst.snd.snd.snd.fst) (zero (Ty.int IntKind.i64)))
      let v1 := (k37 (v0, ()))
      bif (v1) then
        let v2 := (g37 (v0, ()))
        bif (!v2.fst) then
          some (Sum.inr (((false), ()), ()))
        else
          bif (decide (v.fst.snd.snd.snd.fst > 0)) then
            let v3 := (IntKind.wrap IntKind.i64 (v.fst.snd.snd.snd.fst - 1))
            bif (decide (0 ≤ v3) && decide (v3 < (↑(List.length v.snd.fst.snd.fst) : Int))) then
              let v4 := (List.getD v.snd.fst.snd.fst (Int.toNat v3) (zero (Ty.int IntKind.i64)))
              let v5 := (IntKind.wrap IntKind.i64 (v4 + 21600))
              bif (decide (v0 < v5)) then
                some (Sum.inr (((false), ()), ()))
              else
                let v6 := (IntKind.wrap IntKind.i64 (v.fst.snd.snd.snd.fst + 1))
                f (((), ((v.fst.snd.1), ((v.fst.snd.snd.1), ((v6), ())))), (((v.snd.fst.1), ((v.snd.fst.snd.1), ())), ()))
            else
              none
          else
            let v3 := (IntKind.wrap IntKind.i64 (v.fst.snd.snd.snd.fst + 1))
            f (((), ((v.fst.snd.1), ((v.fst.snd.snd.1), ((v3), ())))), (((v.snd.fst.1), ((v.snd.fst.snd.1), ())), ()))
      else
        none
    else
      none
  else
    some (Sum.inl ((), ()))
theorem evl99_10 (k48 : Den A48 → Bool) (g48 : Den A48 → Den R48) (k41 : Den A41 → Bool) (g41 : Den A41 → Den R41) (k77 : Den A77 → Bool) (g77 : Den A77 → Den R77) (k37 : Den A37 → Bool) (g37 : Den A37 → Den R37) (kl4 : V99_4 → Bool) (xl4 : V99_4 → X99_4) (tl4 : V99_4 → Bool) (yl4 : V99_4 → Y99_4) (kl10 : V99_10 → Bool) (xl10 : V99_10 → X99_10) (tl10 : V99_10 → Bool) (yl10 : V99_10 → Y99_10) (f : V99_10 → Option (X99_10 ⊕ Y99_10)) (v : V99_10) : EBk (Γ99 k48 g48 k41 g41 k77 g77 k37 g37 kl4 xl4 tl4 yl4 kl10 xl10 tl10 yl10) lc99_10 (roundK [1, 38, 39, 40] [] 2 [] [] (atS sh99_10 f) (endS shX99_10 shY99_10)) (mkS sh99_10 v) = q99_10 k48 g48 k41 g41 k77 g77 k37 g37 f v := by kernel_rfl
def b99_10 (v : V99_10) : Nat := v.1.2.1.length + v.1.2.2.1.natAbs + v.1.2.2.2.1.natAbs + v.2.1.1.length + v.2.1.2.1.length + 1000
def l99_10 (v : V99_10) : Option (X99_10 ⊕ Y99_10) := iter (q99_10 K48 G48 K41 G41 K77 G77 K37 G37) (b99_10 v) v
def kL99_10 (v : V99_10) : Bool := (l99_10 v).isSome
def tL99_10 (v : V99_10) : Bool := isR (l99_10 v)
def xL99_10 (v : V99_10) : X99_10 := xOf ((), ()) (l99_10 v)
def yL99_10 (v : V99_10) : Y99_10 := yOf ((false, ()), ()) (l99_10 v)
def q99_4 (k48 : Den A48 → Bool) (g48 : Den A48 → Den R48) (k41 : Den A41 → Bool) (g41 : Den A41 → Den R41) (k77 : Den A77 → Bool) (g77 : Den A77 → Den R77) (k37 : Den A37 → Bool) (g37 : Den A37 → Den R37) (f : V99_4 → Option (X99_4 ⊕ Y99_4)) (v : V99_4) : Option (X99_4 ⊕ Y99_4) :=
  bif (decide (v.fst.snd.snd.snd.fst < v.fst.snd.snd.fst)) then
    bif (decide (0 ≤ v.fst.snd.snd.snd.fst) && decide (v.fst.snd.snd.snd.fst < (↑(List.length v.fst.snd.fst) : Int))) then
      let v0 := (List.getD v.fst.snd.fst (Int.toNat v.fst.snd.snd.snd.fst) (zero S96))
      let v1 := (k41 (v0.fst, ()))
      bif (v1) then
        let v2 := (g41 (v0.fst, ()))
        bif (!v2.fst) then
          some (Sum.inr (((false), ()), ()))
        else
          let v3 := (k77 ([v0.snd.fst.fst, v0.snd.fst.snd.fst, v0.snd.fst.snd.snd.fst, v0.snd.fst.snd.snd.snd.fst, v0.snd.fst.snd.snd.snd.snd.fst, v0.snd.fst.snd.snd.snd.snd.snd.fst, v0.snd.fst.snd.snd.snd.snd.snd.snd.fst, v0.snd.fst.snd.snd.snd.snd.snd.snd.snd.fst, v0.snd.fst.snd.snd.snd.snd.snd.snd.snd.snd.fst, v0.snd.fst.snd.snd.snd.snd.snd.snd.snd.snd.snd.fst, v0.snd.fst.snd.snd.snd.snd.snd.snd.snd.snd.snd.snd.fst, v0.snd.fst.snd.snd.snd.snd.snd.snd.snd.snd.snd.snd.snd.fst, v0.snd.fst.snd.snd.snd.snd.snd.snd.snd.snd.snd.snd.snd.snd.fst], ()))
          bif (v3) then
            let v4 := (g77 ([v0.snd.fst.fst, v0.snd.fst.snd.fst, v0.snd.fst.snd.snd.fst, v0.snd.fst.snd.snd.snd.fst, v0.snd.fst.snd.snd.snd.snd.fst, v0.snd.fst.snd.snd.snd.snd.snd.fst, v0.snd.fst.snd.snd.snd.snd.snd.snd.fst, v0.snd.fst.snd.snd.snd.snd.snd.snd.snd.fst, v0.snd.fst.snd.snd.snd.snd.snd.snd.snd.snd.fst, v0.snd.fst.snd.snd.snd.snd.snd.snd.snd.snd.snd.fst, v0.snd.fst.snd.snd.snd.snd.snd.snd.snd.snd.snd.snd.fst, v0.snd.fst.snd.snd.snd.snd.snd.snd.snd.snd.snd.snd.snd.fst, v0.snd.fst.snd.snd.snd.snd.snd.snd.snd.snd.snd.snd.snd.snd.fst], ()))
            bif (!v4.fst) then
              some (Sum.inr (((false), ()), ()))
            else
              let v5 := (IntKind.wrap IntKind.i64 (v.fst.snd.snd.snd.fst + 1))
              f (((), ((v.fst.snd.1), ((v.fst.snd.snd.1), ((v5), ())))), (((v.snd.fst.1), ((v.snd.fst.snd.1), ())), ()))
          else
            none
      else
        none
    else
      none
  else
    some (Sum.inl (((), ()), (((v.snd.fst.1), ((v.snd.fst.snd.1), ())), ())))
theorem evl99_4 (k48 : Den A48 → Bool) (g48 : Den A48 → Den R48) (k41 : Den A41 → Bool) (g41 : Den A41 → Den R41) (k77 : Den A77 → Bool) (g77 : Den A77 → Den R77) (k37 : Den A37 → Bool) (g37 : Den A37 → Den R37) (kl4 : V99_4 → Bool) (xl4 : V99_4 → X99_4) (tl4 : V99_4 → Bool) (yl4 : V99_4 → Y99_4) (kl10 : V99_10 → Bool) (xl10 : V99_10 → X99_10) (tl10 : V99_10 → Bool) (yl10 : V99_10 → Y99_10) (f : V99_4 → Option (X99_4 ⊕ Y99_4)) (v : V99_4) : EBk (Γ99 k48 g48 k41 g41 k77 g77 k37 g37 kl4 xl4 tl4 yl4 kl10 xl10 tl10 yl10) lc99_4 (roundK [1, 20, 21, 22] [] 0 [1] [] (atS sh99_4 f) (endS shX99_4 shY99_4)) (mkS sh99_4 v) = q99_4 k48 g48 k41 g41 k77 g77 k37 g37 f v := by kernel_rfl
def b99_4 (v : V99_4) : Nat := v.1.2.1.length + v.1.2.2.1.natAbs + v.1.2.2.2.1.natAbs + v.2.1.1.length + v.2.1.2.1.length + 1000
def l99_4 (v : V99_4) : Option (X99_4 ⊕ Y99_4) := iter (q99_4 K48 G48 K41 G41 K77 G77 K37 G37) (b99_4 v) v
def kL99_4 (v : V99_4) : Bool := (l99_4 v).isSome
def tL99_4 (v : V99_4) : Bool := isR (l99_4 v)
def xL99_4 (v : V99_4) : X99_4 := xOf (((), ()), (([], ([], ())), ())) (l99_4 v)
def yL99_4 (v : V99_4) : Y99_4 := yOf ((false, ()), ()) (l99_4 v)
def r99 (k48 : Den A48 → Bool) (g48 : Den A48 → Den R48) (k41 : Den A41 → Bool) (g41 : Den A41 → Den R41) (k77 : Den A77 → Bool) (g77 : Den A77 → Den R77) (k37 : Den A37 → Bool) (g37 : Den A37 → Den R37) (kl4 : V99_4 → Bool) (xl4 : V99_4 → X99_4) (tl4 : V99_4 → Bool) (yl4 : V99_4 → Y99_4) (kl10 : V99_10 → Bool) (xl10 : V99_10 → X99_10) (tl10 : V99_10 → Bool) (yl10 : V99_10 → Y99_10) (x : Den A99) : Option (Den R99) :=
  let v0 := (k48 ((↑(List.length x.fst.fst) : Int), 1, 20, ()))
  bif (v0) then
    let v1 := (g48 ((↑(List.length x.fst.fst) : Int), 1, 20, ()))
    bif (!v1.fst) then
      some ((false), ())
    else
      let v2 := (k48 ((↑(List.length x.fst.snd.fst) : Int), 1, 60, ()))
      bif (v2) then
        let v3 := (g48 ((↑(List.length x.fst.snd.fst) : Int), 1, 60, ()))
        bif (!v3.fst) then
          some ((false), ())
        else
          let v4 := (kl4 (((), x.fst.fst, (↑(List.length x.fst.fst) : Int), 0, ()), x))
          bif (v4) then
            let v5 := (tl4 (((), x.fst.fst, (↑(List.length x.fst.fst) : Int), 0, ()), x))
            bif (v5) then
              let v6 := (yl4 (((), x.fst.fst, (↑(List.length x.fst.fst) : Int), 0, ()), x))
              some ((v6.fst.1), ())
            else
              let v6 := (xl4 (((), x.fst.fst, (↑(List.length x.fst.fst) : Int), 0, ()), x))
              let v7 := (kl10 (((), v6.snd.fst.snd.fst, (↑(List.length v6.snd.fst.snd.fst) : Int), 0, ()), v6.snd))
              bif (v7) then
                let v8 := (tl10 (((), v6.snd.fst.snd.fst, (↑(List.length v6.snd.fst.snd.fst) : Int), 0, ()), v6.snd))
                bif (v8) then
                  let v9 := (yl10 (((), v6.snd.fst.snd.fst, (↑(List.length v6.snd.fst.snd.fst) : Int), 0, ()), v6.snd))
                  some ((v9.fst.1), ())
                else
                  some ((true), ())
              else
                none
          else
            none
      else
        none
  else
    none
theorem ev99 (k48 : Den A48 → Bool) (g48 : Den A48 → Den R48) (k41 : Den A41 → Bool) (g41 : Den A41 → Den R41) (k77 : Den A77 → Bool) (g77 : Den A77 → Den R77) (k37 : Den A37 → Bool) (g37 : Den A37 → Den R37) (kl4 : V99_4 → Bool) (xl4 : V99_4 → X99_4) (tl4 : V99_4 → Bool) (yl4 : V99_4 → Y99_4) (kl10 : V99_10 → Bool) (xl10 : V99_10 → X99_10) (tl10 : V99_10 → Bool) (yl10 : V99_10 → Y99_10) (x : Den A99) : callK (Γ99 k48 g48 k41 g41 k77 g77 k37 g37 kl4 xl4 tl4 yl4 kl10 xl10 tl10 yl10) (bodyOf Try.f99) (decR R99) (encA A99 x) [] = r99 k48 g48 k41 g41 k77 g77 k37 g37 kl4 xl4 tl4 yl4 kl10 xl10 tl10 yl10 x := by kernel_rfl
def F99 (x : Den A99) : Option (Den R99) := r99 K48 G48 K41 G41 K77 G77 K37 G37 kL99_4 xL99_4 tL99_4 yL99_4 kL99_10 xL99_10 tL99_10 yL99_10 x
def K99 (x : Den A99) : Bool := (F99 x).isSome
def G99 (x : Den A99) : Den R99 := (F99 x).getD (zero R99)
theorem env99 : EnvOK Try.prog (Γ99 K48 G48 K41 G41 K77 G77 K37 G37 kL99_4 xL99_4 tL99_4 yL99_4 kL99_10 xL99_10 tL99_10 yL99_10) := env_ok mixed tab_ok eqs_ok (.cons sem48 (.cons sem41 (.cons sem77 (.cons sem37 .nil))))
theorem is99 : FnIs Try.prog 99 (Γ99 K48 G48 K41 G41 K77 G77 K37 G37 kL99_4 xL99_4 tL99_4 yL99_4 kL99_10 xL99_10 tL99_10 yL99_10) (bodyOf Try.f99) := fnIs Try.func99 rfl rfl rfl (by kernel_rfl) (loops_ok (l := [lc99_4, lc99_10]) (by kernel_rfl) (.cons (one_loop rfl (loopR_sound (sh := sh99_4) (shX := shX99_4) (shR := shY99_4) (fun f v => evl99_4 K48 G48 K41 G41 K77 G77 K37 G37 kL99_4 xL99_4 tL99_4 yL99_4 kL99_10 xL99_10 tL99_10 yL99_10 f v) b99_4 (((), ()), (([], ([], ())), ())) ((false, ()), ()))) (.cons (one_loop rfl (loopR_sound (sh := sh99_10) (shX := shX99_10) (shR := shY99_10) (fun f v => evl99_10 K48 G48 K41 G41 K77 G77 K37 G37 kL99_4 xL99_4 tL99_4 yL99_4 kL99_10 xL99_10 tL99_10 yL99_10 f v) b99_10 ((), ()) ((false, ()), ()))) (.nil))))
theorem sem99 : SemOK Try.prog (99, fnMean A99 R99 K99 G99) := fn_opt env99 is99 fun x => ev99 K48 G48 K41 G41 K77 G77 K37 G37 kL99_4 xL99_4 tL99_4 yL99_4 kL99_10 xL99_10 tL99_10 yL99_10 x

/- "loop.example/g03321/impl.NearStation" -/
abbrev A71 : Ty := .cons (S48) (.cons (.cpx .f64) (.nil))
abbrev R71 : Ty := .cons (.int .i64) (.nil)
abbrev V71_5 : Type := (((Nat × Nat) × (Int × (Nat × ((List (Den (S96))) × (Int × (Int × Unit)))))) × Unit)
def sh71_5 : ShS := ⟨[(1, .one (.cpx .f64)), (5, .one (.int .i64)), (6, .one (.flt .f64)), (20, .one (.sl (S96))), (21, .one (.int .i64)), (22, .one (.int .i64))], [], 0, 0⟩
abbrev X71_5 : Type := ((Int × Unit) × Unit)
def shX71_5 : ShS := ⟨[(5, .one (.int .i64))], [], 0, 0⟩
noncomputable def Γ71 (k99 : Den A99 → Bool) (g99 : Den A99 → Den R99) (k41 : Den A41 → Bool) (g41 : Den A41 → Den R41) (k42 : Den A42 → Bool) (g42 : Den A42 → Den R42) (k43 : Den A43 → Bool) (g43 : Den A43 → Den R43) (kl5 : V71_5 → Bool) (xl5 : V71_5 → X71_5) : Env := mkEnv tab eqs [(99, fnMean A99 R99 k99 g99), (41, fnMean A41 R41 k41 g41), (42, fnMean A42 R42 k42 g42), (43, fnMean A43 R43 k43 g43)] 45 [.tmp 4] [] [] [(5, loopX [1, 5, 6, 20, 21, 22] [] 0 [5] [] sh71_5 shX71_5 kl5 xl5)] [] []
noncomputable def lc71_5 : Code := (loopsOf (bodyOf Try.f71)).getD 0 .skip
def q71_5 (k99 : Den A99 → Bool) (g99 : Den A99 → Den R99) (k41 : Den A41 → Bool) (g41 : Den A41 → Den R41) (k42 : Den A42 → Bool) (g42 : Den A42 → Den R42) (k43 : Den A43 → Bool) (g43 : Den A43 → Den R43) (f : V71_5 → Option (X71_5)) (v : V71_5) : Option (X71_5) :=
  bif (decide (v.fst.snd.snd.snd.snd.snd.fst < v.fst.snd.snd.snd.snd.fst)) then
    bif (decide (0 ≤ v.fst.snd.snd.snd.snd.snd.fst) && decide (v.fst.snd.snd.snd.snd.snd.fst < (↑(List.length v.fst.snd.snd.snd.fst) : Int))) then
      let v0 := (List.getD v.fst.snd.snd.snd.fst (Int.toNat v.fst.snd.snd.snd.snd.snd.fst) (zero S96))
      let v1 := (k42 (v0.fst, v.fst.fst, ()))
      bif (v1) then
        let v2 := (g42 (v0.fst, v.fst.fst, ()))
        let v3 := (k43 (v2.fst, v2))
        bif (v3) then
          bif (decide (v.fst.snd.fst < 0)) then
            let v4 := (g43 (v2.fst, v2))
            let v5 := (IntKind.wrap IntKind.i64 (v.fst.snd.snd.snd.snd.snd.fst + 1))
            f ((((v.fst.fst.1), (v.fst.fst.2)), ((v.fst.snd.snd.snd.snd.snd.1), ((v4.1), ((v.fst.snd.snd.snd.1), ((v.fst.snd.snd.snd.snd.1), ((v5), ())))))), ())
          else
            let v4 := (g43 (v2.fst, v2))
            bif (flt FloatKind.f64 v4.fst v.fst.snd.snd.fst) then
              let v5 := (IntKind.wrap IntKind.i64 (v.fst.snd.snd.snd.snd.snd.fst + 1))
              f ((((v.fst.fst.1), (v.fst.fst.2)), ((v.fst.snd.snd.snd.snd.snd.1), ((v4.1), ((v.fst.snd.snd.snd.1), ((v.fst.snd.snd.snd.snd.1), ((v5), ())))))), ())
            else
              let v5 := (IntKind.wrap IntKind.i64 (v.fst.snd.snd.snd.snd.snd.fst + 1))
              f ((((v.fst.fst.1), (v.fst.fst.2)), ((v.fst.snd.1), ((v.fst.snd.snd.1), ((v.fst.snd.snd.snd.1), ((v.fst.snd.snd.snd.snd.1), ((v5), ())))))), ())
        else
          none
      else
        none
    else
      none
  else
    some (((v.fst.snd.1), ()), ())
theorem evl71_5 (k99 : Den A99 → Bool) (g99 : Den A99 → Den R99) (k41 : Den A41 → Bool) (g41 : Den A41 → Den R41) (k42 : Den A42 → Bool) (g42 : Den A42 → Den R42) (k43 : Den A43 → Bool) (g43 : Den A43 → Den R43) (kl5 : V71_5 → Bool) (xl5 : V71_5 → X71_5) (f : V71_5 → Option (X71_5)) (v : V71_5) : EBk (Γ71 k99 g99 k41 g41 k42 g42 k43 g43 kl5 xl5) lc71_5 (roundK [1, 5, 6, 20, 21, 22] [] 0 [5] [] (atS sh71_5 f) (endX shX71_5)) (mkS sh71_5 v) = q71_5 k99 g99 k41 g41 k42 g42 k43 g43 f v := by kernel_rfl
def b71_5 (v : V71_5) : Nat := v.1.2.1.natAbs + v.1.2.2.2.1.length + v.1.2.2.2.2.1.natAbs + v.1.2.2.2.2.2.1.natAbs + 1000
def l71_5 (v : V71_5) : Option (X71_5) := iter (q71_5 K99 G99 K41 G41 K42 G42 K43 G43) (b71_5 v) v
def kL71_5 (v : V71_5) : Bool := (l71_5 v).isSome
def xL71_5 (v : V71_5) : X71_5 := (l71_5 v).getD ((0, ()), ())
def r71 (k99 : Den A99 → Bool) (g99 : Den A99 → Den R99) (k41 : Den A41 → Bool) (g41 : Den A41 → Den R41) (k42 : Den A42 → Bool) (g42 : Den A42 → Den R42) (k43 : Den A43 → Bool) (g43 : Den A43 → Den R43) (kl5 : V71_5 → Bool) (xl5 : V71_5 → X71_5) (x : Den A71) : Option (Den R71) :=
  let v0 := (k99 (x.fst, ()))
  bif (v0) then
    let v1 := (g99 (x.fst, ()))
    bif (!v1.fst) then
      some ((-1), ())
    else
      let v2 := (k41 x.snd)
      bif (v2) then
        let v3 := (g41 x.snd)
        bif (!v3.fst) then
          some ((-1), ())
        else
          let v4 := (kl5 ((x.snd.fst, -1, 0, x.fst.fst, (↑(List.length x.fst.fst) : Int), 0, ()), ()))
          bif (v4) then
            let v5 := (xl5 ((x.snd.fst, -1, 0, x.fst.fst, (↑(List.length x.fst.fst) : Int), 0, ()), ()))
            some ((v5.fst.1), ())
          else
            none
      else
        none
  else
    none
theorem ev71 (k99 : Den A99 → Bool) (g99 : Den A99 → Den R99) (k41 : Den A41 → Bool) (g41 : Den A41 → Den R41) (k42 : Den A42 → Bool) (g42 : Den A42 → Den R42) (k43 : Den A43 → Bool) (g43 : Den A43 → Den R43) (kl5 : V71_5 → Bool) (xl5 : V71_5 → X71_5) (x : Den A71) : callK (Γ71 k99 g99 k41 g41 k42 g42 k43 g43 kl5 xl5) (bodyOf Try.f71) (decR R71) (encA A71 x) [] = r71 k99 g99 k41 g41 k42 g42 k43 g43 kl5 xl5 x := by kernel_rfl
def F71 (x : Den A71) : Option (Den R71) := r71 K99 G99 K41 G41 K42 G42 K43 G43 kL71_5 xL71_5 x
def K71 (x : Den A71) : Bool := (F71 x).isSome
def G71 (x : Den A71) : Den R71 := (F71 x).getD (zero R71)
theorem env71 : EnvOK Try.prog (Γ71 K99 G99 K41 G41 K42 G42 K43 G43 kL71_5 xL71_5) := env_ok mixed tab_ok eqs_ok (.cons sem99 (.cons sem41 (.cons sem42 (.cons sem43 .nil))))
theorem is71 : FnIs Try.prog 71 (Γ71 K99 G99 K41 G41 K42 G42 K43 G43 kL71_5 xL71_5) (bodyOf Try.f71) := fnIs Try.func71 rfl rfl rfl (by kernel_rfl) (loops_ok (l := [lc71_5]) (by kernel_rfl) (.cons (one_loop rfl (loopX_sound (sh := sh71_5) (shX := shX71_5) (fun f v => evl71_5 K99 G99 K41 G41 K42 G42 K43 G43 kL71_5 xL71_5 f v) b71_5 ((0, ()), ()))) (.nil)))
theorem sem71 : SemOK Try.prog (71, fnMean A71 R71 K71 G71) := fn_opt env71 is71 fun x => ev71 K99 G99 K41 G41 K42 G42 K43 G43 kL71_5 xL71_5 x

/- "loop.example/g03321/impl.HighAt$1" mode S true -/
abbrev I100 : Sg := ⟨[.val (.int .i64), .ptr 0, .ptr 1], [.box (.int .i64), .box (S48)]⟩
abbrev O100 : Sg := ⟨[.val (.int .i64)], [.box (.int .i64), .box (S48)]⟩
noncomputable def Γ100 : Env := mkEnv tab eqs [] 20 [.tmp 4] [] [] [] [] []
def r100 (x : I100.den) : Option (O100.den) :=
  bif (decide (0 ≤ x.fst.fst) && decide (x.fst.fst < (↑(List.length x.snd.snd.fst.snd.fst) : Int))) then
    bif (decide (0 ≤ x.fst.fst) && decide (x.fst.fst < (↑(List.length x.snd.snd.fst.snd.fst) : Int))) then
      let v0 := (List.getD x.snd.snd.fst.snd.fst (Int.toNat x.fst.fst) (zero (Ty.int IntKind.i64)))
      let v1 := (IntKind.wrap IntKind.i64 (x.snd.fst - v0))
      let v2 := (IntKind.wrap IntKind.i64 (v0 - x.snd.fst))
      some (((imax v1 v2), ()), ((x.snd.1), (((x.snd.snd.fst.1), ((x.snd.snd.fst.snd.1), ())), ())))
    else
      none
  else
    none
theorem ev100 (x : I100.den) : callS (Γ100) (bodyOf Try.f100) I100 O100 x = r100 x := by kernel_rfl
def F100 (x : I100.den) : Option (O100.den) := r100 x
def K100 (x : I100.den) : Bool := (F100 x).isSome
def G100 (x : I100.den) : O100.den := (F100 x).getD (zeroSg O100)
theorem env100 : EnvOK Try.prog (Γ100) := env_ok mixed tab_ok eqs_ok .nil
theorem is100 : FnIs Try.prog 100 (Γ100) (bodyOf Try.f100) := fnIs Try.func100 rfl rfl rfl (by kernel_rfl) (noLoops (by kernel_rfl))
theorem sem100 : SemOK Try.prog (100, sgMean true I100 O100 K100 G100) := sg_opt env100 is100 true fun x => ev100 x

/- "loop.example/g03321/impl.HighAt" -/
abbrev A72 : Ty := .cons (S48) (.cons (.int .i64) (.nil))
abbrev R72 : Ty := .cons (.int .i64) (.nil)
abbrev V72_6 : Type := ((Unit × (Int × (Int × (Int × Unit)))) × ((Int × Unit) × (((List (Den (S96))) × ((List (Den (.int .i64))) × Unit)) × Unit)))
def sh72_6 : ShS := ⟨[(5, .one (.fn 100 [0, 1])), (6, .one (.int .i64)), (19, .one (.int .i64)), (20, .one (.int .i64))], [(0, .box [.int .i64]), (1, .box [.sl (S96), .sl (.int .i64)])], 2, 0⟩
abbrev X72_6 : Type := ((Int × Unit) × Unit)
def shX72_6 : ShS := ⟨[(6, .one (.int .i64))], [], 0, 0⟩
noncomputable def Γ72 (k99 : Den A99 → Bool) (g99 : Den A99 → Den R99) (k37 : Den A37 → Bool) (g37 : Den A37 → Den R37) (k100 : I100.den → Bool) (g100 : I100.den → O100.den) (kl6 : V72_6 → Bool) (xl6 : V72_6 → X72_6) : Env := mkEnv tab eqs [(99, fnMean A99 R99 k99 g99), (37, fnMean A37 R37 k37 g37), (100, sgMean true I100 O100 k100 g100)] 33 [.tmp 4] [] [] [(6, loopX [5, 6, 19, 20] [] 0 [6] [] sh72_6 shX72_6 kl6 xl6)] [] []
noncomputable def lc72_6 : Code := (loopsOf (bodyOf Try.f72)).getD 0 .skip
def q72_6 (k99 : Den A99 → Bool) (g99 : Den A99 → Den R99) (k37 : Den A37 → Bool) (g37 : Den A37 → Den R37) (k100 : I100.den → Bool) (g100 : I100.den → O100.den) (f : V72_6 → Option (X72_6)) (v : V72_6) : Option (X72_6) :=
  bif (decide (v.fst.snd.snd.snd.fst < v.fst.snd.snd.fst)) then
    let v0 := (k100 ((v.fst.snd.snd.snd.fst, (), (), ()), v.snd.fst.fst, v.snd.snd))
    bif (v0) then
      let v1 := (g100 ((v.fst.snd.snd.snd.fst, (), (), ()), v.snd.fst.fst, v.snd.snd))
      let v2 := (k100 ((v.fst.snd.fst, (), (), ()), v1.snd))
      bif (v2) then
        let v3 := (g100 ((v.fst.snd.fst, (), (), ()), v1.snd))
        bif (decide (v1.fst.fst < v3.fst.fst)) then
          let v4 := (IntKind.wrap IntKind.i64 (v.fst.snd.snd.snd.fst + 1))
          f (((), ((v.fst.snd.snd.snd.1), ((v.fst.snd.snd.1), ((v4), ())))), (((v3.snd.1), ()), (((v3.snd.snd.fst.1), ((v3.snd.snd.fst.snd.1), ())), ())))
        else
          let v4 := (IntKind.wrap IntKind.i64 (v.fst.snd.snd.snd.fst + 1))
          f (((), ((v.fst.snd.1), ((v.fst.snd.snd.1), ((v4), ())))), (((v3.snd.1), ()), (((v3.snd.snd.fst.1), ((v3.snd.snd.fst.snd.1), ())), ())))
      else
        none
    else
      none
  else
    some (((v.fst.snd.1), ()), ())
theorem evl72_6 (k99 : Den A99 → Bool) (g99 : Den A99 → Den R99) (k37 : Den A37 → Bool) (g37 : Den A37 → Den R37) (k100 : I100.den → Bool) (g100 : I100.den → O100.den) (kl6 : V72_6 → Bool) (xl6 : V72_6 → X72_6) (f : V72_6 → Option (X72_6)) (v : V72_6) : EBk (Γ72 k99 g99 k37 g37 k100 g100 kl6 xl6) lc72_6 (roundK [5, 6, 19, 20] [] 0 [6] [] (atS sh72_6 f) (endX shX72_6)) (mkS sh72_6 v) = q72_6 k99 g99 k37 g37 k100 g100 f v := by kernel_rfl
def b72_6 (v : V72_6) : Nat := v.1.2.1.natAbs + v.1.2.2.1.natAbs + v.1.2.2.2.1.natAbs + v.2.1.1.natAbs + v.2.2.1.1.length + v.2.2.1.2.1.length + 1000
def l72_6 (v : V72_6) : Option (X72_6) := iter (q72_6 K99 G99 K37 G37 K100 G100) (b72_6 v) v
def kL72_6 (v : V72_6) : Bool := (l72_6 v).isSome
def xL72_6 (v : V72_6) : X72_6 := (l72_6 v).getD ((0, ()), ())
def r72 (k99 : Den A99 → Bool) (g99 : Den A99 → Den R99) (k37 : Den A37 → Bool) (g37 : Den A37 → Den R37) (k100 : I100.den → Bool) (g100 : I100.den → O100.den) (kl6 : V72_6 → Bool) (xl6 : V72_6 → X72_6) (x : Den A72) : Option (Den R72) :=
  let v0 := (k99 (x.fst, ()))
  bif (v0) then
    let v1 := (g99 (x.fst, ()))
    bif (!v1.fst) then
      some ((-1), ())
    else
      let v2 := (k37 x.snd)
      bif (v2) then
        let v3 := (g37 x.snd)
        bif (!v3.fst) then
          some ((-1), ())
        else
          let v4 := (kl6 (((), 0, (↑(List.length x.fst.snd.fst) : Int), 0, ()), x.snd, x.fst, ()))
          bif (v4) then
            let v5 := (xl6 (((), 0, (↑(List.length x.fst.snd.fst) : Int), 0, ()), x.snd, x.fst, ()))
            some ((v5.fst.1), ())
          else
            none
      else
        none
  else
    none
theorem ev72 (k99 : Den A99 → Bool) (g99 : Den A99 → Den R99) (k37 : Den A37 → Bool) (g37 : Den A37 → Den R37) (k100 : I100.den → Bool) (g100 : I100.den → O100.den) (kl6 : V72_6 → Bool) (xl6 : V72_6 → X72_6) (x : Den A72) : callK (Γ72 k99 g99 k37 g37 k100 g100 kl6 xl6) (bodyOf Try.f72) (decR R72) (encA A72 x) [] = r72 k99 g99 k37 g37 k100 g100 kl6 xl6 x := by kernel_rfl
def F72 (x : Den A72) : Option (Den R72) := r72 K99 G99 K37 G37 K100 G100 kL72_6 xL72_6 x
def K72 (x : Den A72) : Bool := (F72 x).isSome
def G72 (x : Den A72) : Den R72 := (F72 x).getD (zero R72)
theorem env72 : EnvOK Try.prog (Γ72 K99 G99 K37 G37 K100 G100 kL72_6 xL72_6) := env_ok mixed tab_ok eqs_ok (.cons sem99 (.cons sem37 (.cons sem100 .nil)))
theorem is72 : FnIs Try.prog 72 (Γ72 K99 G99 K37 G37 K100 G100 kL72_6 xL72_6) (bodyOf Try.f72) := fnIs Try.func72 rfl rfl rfl (by kernel_rfl) (loops_ok (l := [lc72_6]) (by kernel_rfl) (.cons (one_loop rfl (loopX_sound (sh := sh72_6) (shX := shX72_6) (fun f v => evl72_6 K99 G99 K37 G37 K100 G100 kL72_6 xL72_6 f v) b72_6 ((0, ()), ()))) (.nil)))
theorem sem72 : SemOK Try.prog (72, fnMean A72 R72 K72 G72) := fn_opt env72 is72 fun x => ev72 K99 G99 K37 G37 K100 G100 kL72_6 xL72_6 x

/- "loop.example/g03321/impl.Clamp" -/
abbrev A101 : Ty := .cons (.int .i64) (.cons (.int .i64) (.cons (.int .i64) (.nil)))
abbrev R101 : Ty := .cons (.int .i64) (.nil)
noncomputable def Γ101 : Env := mkEnv tab eqs [] 19 [.tmp 6] [] [] [] [] []
def r101 (x : Den A101) : Option (Den R101) :=
  bif (decide (x.snd.snd.fst < x.snd.fst)) then
    some ((x.snd.1), ())
  else
    bif (decide (x.fst < x.snd.fst)) then
      some ((x.snd.1), ())
    else
      some ((imin x.fst x.snd.snd.fst), ())
theorem ev101 (x : Den A101) : callK (Γ101) (bodyOf Try.f101) (decR R101) (encA A101 x) [] = r101 x := by kernel_rfl
def F101 (x : Den A101) : Option (Den R101) := r101 x
def K101 (x : Den A101) : Bool := (F101 x).isSome
def G101 (x : Den A101) : Den R101 := (F101 x).getD (zero R101)
theorem env101 : EnvOK Try.prog (Γ101) := env_ok mixed tab_ok eqs_ok .nil
theorem is101 : FnIs Try.prog 101 (Γ101) (bodyOf Try.f101) := fnIs Try.func101 rfl rfl rfl (by kernel_rfl) (noLoops (by kernel_rfl))
theorem sem101 : SemOK Try.prog (101, fnMean A101 R101 K101 G101) := fn_opt env101 is101 fun x => ev101 x

/- "loop.example/g03321/impl.between" -/
abbrev A102 : Ty := .cons (.flt .f32) (.cons (.flt .f32) (.cons (.flt .f32) (.nil)))
abbrev R102 : Ty := .cons (.flt .f32) (.nil)
noncomputable def Γ102 : Env := mkEnv tab eqs [] 16 [.tmp 6] [] [] [] [] []
def r102 (x : Den A102) : Option (Den R102) :=
  let v0 := (farith BinOp.sub FloatKind.f32 x.snd.fst x.fst)
  let v1 := (farith BinOp.mul FloatKind.f32 v0 x.snd.snd.fst)
  let v2 := (farith BinOp.add FloatKind.f32 x.fst v1)
  some ((v2), ())
theorem ev102 (x : Den A102) : callK (Γ102) (bodyOf Try.f102) (decR R102) (encA A102 x) [] = r102 x := by kernel_rfl
def F102 (x : Den A102) : Option (Den R102) := r102 x
def K102 (x : Den A102) : Bool := (F102 x).isSome
def G102 (x : Den A102) : Den R102 := (F102 x).getD (zero R102)
theorem env102 : EnvOK Try.prog (Γ102) := env_ok mixed tab_ok eqs_ok .nil
theorem is102 : FnIs Try.prog 102 (Γ102) (bodyOf Try.f102) := fnIs Try.func102 rfl rfl rfl (by kernel_rfl) (noLoops (by kernel_rfl))
theorem sem102 : SemOK Try.prog (102, fnMean A102 R102 K102 G102) := fn_opt env102 is102 fun x => ev102 x

/- "loop.example/g03321/impl.FlowAt" -/
abbrev A73 : Ty := .cons (S96) (.cons (.int .i64) (.nil))
abbrev R73 : Ty := .cons (.cpx .f32) (.cons (.bool) (.nil))
noncomputable def Γ73 (k77 : Den A77 → Bool) (g77 : Den A77 → Den R77) (k101 : Den A101 → Bool) (g101 : Den A101 → Den R101) (k102 : Den A102 → Bool) (g102 : Den A102 → Den R102) : Env := mkEnv tab eqs [(77, fnMean A77 R77 k77 g77), (101, fnMean A101 R101 k101 g101), (102, fnMean A102 R102 k102 g102)] 54 [.tmp 4, .tmp 5] [] [] [] [] []
def r73 (k77 : Den A77 → Bool) (g77 : Den A77 → Den R77) (k101 : Den A101 → Bool) (g101 : Den A101 → Den R101) (k102 : Den A102 → Bool) (g102 : Den A102 → Den R102) (x : Den A73) : Option (Den R73) :=
  let v0 := (k77 ([x.fst.snd.fst.fst, x.fst.snd.fst.snd.fst, x.fst.snd.fst.snd.snd.fst, x.fst.snd.fst.snd.snd.snd.fst, x.fst.snd.fst.snd.snd.snd.snd.fst, x.fst.snd.fst.snd.snd.snd.snd.snd.fst, x.fst.snd.fst.snd.snd.snd.snd.snd.snd.fst, x.fst.snd.fst.snd.snd.snd.snd.snd.snd.snd.fst, x.fst.snd.fst.snd.snd.snd.snd.snd.snd.snd.snd.fst, x.fst.snd.fst.snd.snd.snd.snd.snd.snd.snd.snd.snd.fst, x.fst.snd.fst.snd.snd.snd.snd.snd.snd.snd.snd.snd.snd.fst, x.fst.snd.fst.snd.snd.snd.snd.snd.snd.snd.snd.snd.snd.snd.fst, x.fst.snd.fst.snd.snd.snd.snd.snd.snd.snd.snd.snd.snd.snd.snd.fst], ()))
  bif (v0) then
    let v1 := (g77 ([x.fst.snd.fst.fst, x.fst.snd.fst.snd.fst, x.fst.snd.fst.snd.snd.fst, x.fst.snd.fst.snd.snd.snd.fst, x.fst.snd.fst.snd.snd.snd.snd.fst, x.fst.snd.fst.snd.snd.snd.snd.snd.fst, x.fst.snd.fst.snd.snd.snd.snd.snd.snd.fst, x.fst.snd.fst.snd.snd.snd.snd.snd.snd.snd.fst, x.fst.snd.fst.snd.snd.snd.snd.snd.snd.snd.snd.fst, x.fst.snd.fst.snd.snd.snd.snd.snd.snd.snd.snd.snd.fst, x.fst.snd.fst.snd.snd.snd.snd.snd.snd.snd.snd.snd.snd.fst, x.fst.snd.fst.snd.snd.snd.snd.snd.snd.snd.snd.snd.snd.snd.fst, x.fst.snd.fst.snd.snd.snd.snd.snd.snd.snd.snd.snd.snd.snd.snd.fst], ()))
    bif (!v1.fst) then
      some (((0), (0)), ((false), ()))
    else
      let v2 := (k101 (x.snd.fst, -21600, 21600, ()))
      bif (v2) then
        let v3 := (g101 (x.snd.fst, -21600, 21600, ()))
        let v4 := (IntKind.wrap IntKind.i64 (v3.fst + 21600))
        bif (Int.tmod v4 3600 == 0) then
          let v5 := (IntKind.wrap IntKind.i64 (Int.tdiv v4 3600))
          bif (decide (0 ≤ v5) && decide (v5 < (↑13 : Int))) then
            let v6 := (List.getD [x.fst.snd.fst.fst, x.fst.snd.fst.snd.fst, x.fst.snd.fst.snd.snd.fst, x.fst.snd.fst.snd.snd.snd.fst, x.fst.snd.fst.snd.snd.snd.snd.fst, x.fst.snd.fst.snd.snd.snd.snd.snd.fst, x.fst.snd.fst.snd.snd.snd.snd.snd.snd.fst, x.fst.snd.fst.snd.snd.snd.snd.snd.snd.snd.fst, x.fst.snd.fst.snd.snd.snd.snd.snd.snd.snd.snd.fst, x.fst.snd.fst.snd.snd.snd.snd.snd.snd.snd.snd.snd.fst, x.fst.snd.fst.snd.snd.snd.snd.snd.snd.snd.snd.snd.snd.fst, x.fst.snd.fst.snd.snd.snd.snd.snd.snd.snd.snd.snd.snd.snd.fst, x.fst.snd.fst.snd.snd.snd.snd.snd.snd.snd.snd.snd.snd.snd.snd.fst] (Int.toNat v5) (0, 0))
            some (((v6.1), (v6.2)), ((true), ()))
          else
            none
        else
          let v5 := (IntKind.wrap IntKind.i64 (Int.tdiv v4 3600))
          bif (decide (0 ≤ v5) && decide (v5 < (↑13 : Int))) then
            let v6 := (IntKind.wrap IntKind.i64 (v5 + 1))
            bif (decide (0 ≤ v6) && decide (v6 < (↑13 : Int))) then
              let v7 := (List.getD [x.fst.snd.fst.fst, x.fst.snd.fst.snd.fst, x.fst.snd.fst.snd.snd.fst, x.fst.snd.fst.snd.snd.snd.fst, x.fst.snd.fst.snd.snd.snd.snd.fst, x.fst.snd.fst.snd.snd.snd.snd.snd.fst, x.fst.snd.fst.snd.snd.snd.snd.snd.snd.fst, x.fst.snd.fst.snd.snd.snd.snd.snd.snd.snd.fst, x.fst.snd.fst.snd.snd.snd.snd.snd.snd.snd.snd.fst, x.fst.snd.fst.snd.snd.snd.snd.snd.snd.snd.snd.snd.fst, x.fst.snd.fst.snd.snd.snd.snd.snd.snd.snd.snd.snd.snd.fst, x.fst.snd.fst.snd.snd.snd.snd.snd.snd.snd.snd.snd.snd.snd.fst, x.fst.snd.fst.snd.snd.snd.snd.snd.snd.snd.snd.snd.snd.snd.snd.fst] (Int.toNat v5) (0, 0))
              let v8 := (List.getD [x.fst.snd.fst.fst, x.fst.snd.fst.snd.fst, x.fst.snd.fst.snd.snd.fst, x.fst.snd.fst.snd.snd.snd.fst, x.fst.snd.fst.snd.snd.snd.snd.fst, x.fst.snd.fst.snd.snd.snd.snd.snd.fst, x.fst.snd.fst.snd.snd.snd.snd.snd.snd.fst, x.fst.snd.fst.snd.snd.snd.snd.snd.snd.snd.fst, x.fst.snd.fst.snd.snd.snd.snd.snd.snd.snd.snd.fst, x.fst.snd.fst.snd.snd.snd.snd.snd.snd.snd.snd.snd.fst, x.fst.snd.fst.snd.snd.snd.snd.snd.snd.snd.snd.snd.snd.fst, x.fst.snd.fst.snd.snd.snd.snd.snd.snd.snd.snd.snd.snd.snd.fst, x.fst.snd.fst.snd.snd.snd.snd.snd.snd.snd.snd.snd.snd.snd.snd.fst] (Int.toNat v6) (0, 0))
              let v9 := (farith BinOp.quo FloatKind.f32 (FloatKind.nearest FloatKind.f32 (Int.tmod v4 3600)) 1163984896)
              let v10 := (k102 (v7.fst, v8.fst, v9, ()))
              bif (v10) then
                let v11 := (k102 (v7.snd, v8.snd, v9, ()))
                bif (v11) then
                  let v12 := (g102 (v7.fst, v8.fst, v9, ()))
                  let v13 := (g102 (v7.snd, v8.snd, v9, ()))
                  some (((v12.1), (v13.1)), ((true), ()))
                else
                  none
              else
                none
            else
              none
          else
            none
      else
        none
  else
    none
theorem ev73 (k77 : Den A77 → Bool) (g77 : Den A77 → Den R77) (k101 : Den A101 → Bool) (g101 : Den A101 → Den R101) (k102 : Den A102 → Bool) (g102 : Den A102 → Den R102) (x : Den A73) : callK (Γ73 k77 g77 k101 g101 k102 g102) (bodyOf Try.f73) (decR R73) (encA A73 x) [] = r73 k77 g77 k101 g101 k102 g102 x := by kernel_rfl
def F73 (x : Den A73) : Option (Den R73) := r73 K77 G77 K101 G101 K102 G102 x
def K73 (x : Den A73) : Bool := (F73 x).isSome
def G73 (x : Den A73) : Den R73 := (F73 x).getD (zero R73)
theorem env73 : EnvOK Try.prog (Γ73 K77 G77 K101 G101 K102 G102) := env_ok mixed tab_ok eqs_ok (.cons sem77 (.cons sem101 (.cons sem102 .nil)))
theorem is73 : FnIs Try.prog 73 (Γ73 K77 G77 K101 G101 K102 G102) (bodyOf Try.f73) := fnIs Try.func73 rfl rfl rfl (by kernel_rfl) (noLoops (by kernel_rfl))
theorem sem73 : SemOK Try.prog (73, fnMean A73 R73 K73 G73) := fn_opt env73 is73 fun x => ev73 K77 G77 K101 G101 K102 G102 x

/- "loop.example/g03321/impl.StreamAt" -/
abbrev A28 : Ty := .cons (S48) (.cons (.cpx .f64) (.cons (.int .i64) (.nil)))
abbrev R28 : Ty := .cons (.cpx .f32) (.cons (.bool) (.nil))
noncomputable def Γ28 (k71 : Den A71 → Bool) (g71 : Den A71 → Den R71) (k72 : Den A72 → Bool) (g72 : Den A72 → Den R72) (k73 : Den A73 → Bool) (g73 : Den A73 → Den R73) : Env := mkEnv tab eqs [(71, fnMean A71 R71 k71 g71), (72, fnMean A72 R72 k72 g72), (73, fnMean A73 R73 k73 g73)] 37 [.tmp 6, .tmp 7] [] [] [] [] []
def r28 (k71 : Den A71 → Bool) (g71 : Den A71 → Den R71) (k72 : Den A72 → Bool) (g72 : Den A72 → Den R72) (k73 : Den A73 → Bool) (g73 : Den A73 → Den R73) (x : Den A28) : Option (Den R28) :=
  let v0 := (k71 (x.fst, x.snd.fst, ()))
  bif (v0) then
    let v1 := (k72 (x.fst, x.snd.snd))
    bif (v1) then
      let v2 := (g71 (x.fst, x.snd.fst, ()))
      bif (decide (v2.fst < 0)) then
        some (((0), (0)), ((false), ()))
      else
        let v3 := (g72 (x.fst, x.snd.snd))
        bif (decide (v3.fst < 0)) then
          some (((0), (0)), ((false), ()))
        else
          bif (decide (0 ≤ v2.fst) && decide (v2.fst < (↑(List.length x.fst.fst) : Int))) then
            bif (decide (0 ≤ v3.fst) && decide (v3.fst < (↑(List.length x.fst.snd.fst) : Int))) then
              let v4 := (List.getD x.fst.fst (Int.toNat v2.fst) (zero S96))
              let v5 := (List.getD x.fst.snd.fst (Int.toNat v3.fst) (zero (Ty.int IntKind.i64)))
              let v6 := (IntKind.wrap IntKind.i64 (x.snd.snd.fst - v5))
              let v7 := (k73 (v4, v6, ()))
              bif (v7) then
                let v8 := (g73 (v4, v6, ()))
                some (((v8.fst.1), (v8.fst.2)), ((v8.snd.1), ()))
              else
                none
            else
              none
          else
            none
    else
      none
  else
    none
theorem ev28 (k71 : Den A71 → Bool) (g71 : Den A71 → Den R71) (k72 : Den A72 → Bool) (g72 : Den A72 → Den R72) (k73 : Den A73 → Bool) (g73 : Den A73 → Den R73) (x : Den A28) : callK (Γ28 k71 g71 k72 g72 k73 g73) (bodyOf Try.f28) (decR R28) (encA A28 x) [] = r28 k71 g71 k72 g72 k73 g73 x := by kernel_rfl
def F28 (x : Den A28) : Option (Den R28) := r28 K71 G71 K72 G72 K73 G73 x
def K28 (x : Den A28) : Bool := (F28 x).isSome
def G28 (x : Den A28) : Den R28 := (F28 x).getD (zero R28)
theorem env28 : EnvOK Try.prog (Γ28 K71 G71 K72 G72 K73 G73) := env_ok mixed tab_ok eqs_ok (.cons sem71 (.cons sem72 (.cons sem73 .nil)))
theorem is28 : FnIs Try.prog 28 (Γ28 K71 G71 K72 G72 K73 G73) (bodyOf Try.f28) := fnIs Try.func28 rfl rfl rfl (by kernel_rfl) (noLoops (by kernel_rfl))
theorem sem28 : SemOK Try.prog (28, fnMean A28 R28 K28 G28) := fn_opt env28 is28 fun x => ev28 K71 G71 K72 G72 K73 G73 x

/- "loop.example/g03321/impl.mod" -/
abbrev A84 : Ty := .cons (.int .i64) (.nil)
abbrev R84 : Ty := .cons (.int .i64) (.nil)
noncomputable def Γ84 : Env := mkEnv tab eqs [] 7 [.tmp 2] [] [] [] [] []
def r84 (x : Den A84) : Option (Den R84) :=
  let v0 := (IntKind.wrap IntKind.i64 (Int.tmod x.fst 360 + 360))
  some ((Int.tmod v0 360), ())
theorem ev84 (x : Den A84) : callK (Γ84) (bodyOf Try.f84) (decR R84) (encA A84 x) [] = r84 x := by kernel_rfl
def F84 (x : Den A84) : Option (Den R84) := r84 x
def K84 (x : Den A84) : Bool := (F84 x).isSome
def G84 (x : Den A84) : Den R84 := (F84 x).getD (zero R84)
theorem env84 : EnvOK Try.prog (Γ84) := env_ok mixed tab_ok eqs_ok .nil
theorem is84 : FnIs Try.prog 84 (Γ84) (bodyOf Try.f84) := fnIs Try.func84 rfl rfl rfl (by kernel_rfl) (noLoops (by kernel_rfl))
theorem sem84 : SemOK Try.prog (84, fnMean A84 R84 K84 G84) := fn_opt env84 is84 fun x => ev84 x

/- "loop.example/g03321/impl.times" -/
abbrev A85 : Ty := .cons (.cpx .f64) (.cons (.cpx .f64) (.nil))
abbrev R85 : Ty := .cons (.cpx .f64) (.nil)
noncomputable def Γ85 : Env := mkEnv tab eqs [] 32 [.tmp 4] [] [] [] [] []
def r85 (x : Den A85) : Option (Den R85) :=
  let v0 := (farith BinOp.mul FloatKind.f64 x.fst.fst x.snd.fst.fst)
  let v1 := (farith BinOp.mul FloatKind.f64 x.fst.snd x.snd.fst.snd)
  let v2 := (farith BinOp.sub FloatKind.f64 v0 v1)
  let v3 := (farith BinOp.mul FloatKind.f64 x.fst.fst x.snd.fst.snd)
  let v4 := (farith BinOp.mul FloatKind.f64 x.fst.snd x.snd.fst.fst)
  let v5 := (farith BinOp.add FloatKind.f64 v3 v4)
  some (((v2), (v5)), ())
theorem ev85 (x : Den A85) : callK (Γ85) (bodyOf Try.f85) (decR R85) (encA A85 x) [] = r85 x := by kernel_rfl
def F85 (x : Den A85) : Option (Den R85) := r85 x
def K85 (x : Den A85) : Bool := (F85 x).isSome
def G85 (x : Den A85) : Den R85 := (F85 x).getD (zero R85)
theorem env85 : EnvOK Try.prog (Γ85) := env_ok mixed tab_ok eqs_ok .nil
theorem is85 : FnIs Try.prog 85 (Γ85) (bodyOf Try.f85) := fnIs Try.func85 rfl rfl rfl (by kernel_rfl) (noLoops (by kernel_rfl))
theorem sem85 : SemOK Try.prog (85, fnMean A85 R85 K85 G85) := fn_opt env85 is85 fun x => ev85 x

/- "loop.example/g03321/impl.Turn" -/
abbrev A50 : Ty := .cons (.int .i64) (.nil)
abbrev R50 : Ty := .cons (.cpx .f64) (.nil)
abbrev V50_3 : Type := (((Nat × Nat) × (Int × Unit)) × Unit)
def sh50_3 : ShS := ⟨[(3, .one (.cpx .f64)), (4, .one (.int .i64))], [], 0, 0⟩
abbrev X50_3 : Type := (((Nat × Nat) × Unit) × Unit)
def shX50_3 : ShS := ⟨[(3, .one (.cpx .f64))], [], 0, 0⟩
noncomputable def Γ50 (k84 : Den A84 → Bool) (g84 : Den A84 → Den R84) (k85 : Den A85 → Bool) (g85 : Den A85 → Den R85) (kl3 : V50_3 → Bool) (xl3 : V50_3 → X50_3) : Env := mkEnv tab eqs [(84, fnMean A84 R84 k84 g84), (85, fnMean A85 R85 k85 g85)] 14 [.tmp 2] [] [] [(3, loopX [3, 4] [] 0 [3] [] sh50_3 shX50_3 kl3 xl3)] [] []
noncomputable def lc50_3 : Code := (loopsOf (bodyOf Try.f50)).getD 0 .skip
def q50_3 (k84 : Den A84 → Bool) (g84 : Den A84 → Den R84) (k85 : Den A85 → Bool) (g85 : Den A85 → Den R85) (f : V50_3 → Option (X50_3)) (v : V50_3) : Option (X50_3) :=
  bif (decide (v.fst.snd.fst > 0)) then
    let v0 := (k85 (v.fst.fst, (4607181046959943561, 4580687535080594718), ()))
    bif (v0) then
      let v1 := (g85 (v.fst.fst, (4607181046959943561, 4580687535080594718), ()))
      let v2 := (IntKind.wrap IntKind.i64 (v.fst.snd.fst - 1))
      f ((((v1.fst.1), (v1.fst.2)), ((v2), ())), ())
    else
      none
  else
    some ((((v.fst.fst.1), (v.fst.fst.2)), ()), ())
theorem evl50_3 (k84 : Den A84 → Bool) (g84 : Den A84 → Den R84) (k85 : Den A85 → Bool) (g85 : Den A85 → Den R85) (kl3 : V50_3 → Bool) (xl3 : V50_3 → X50_3) (f : V50_3 → Option (X50_3)) (v : V50_3) : EBk (Γ50 k84 g84 k85 g85 kl3 xl3) lc50_3 (roundK [3, 4] [] 0 [3] [] (atS sh50_3 f) (endX shX50_3)) (mkS sh50_3 v) = q50_3 k84 g84 k85 g85 f v := by kernel_rfl
def b50_3 (v : V50_3) : Nat := v.1.2.1.natAbs + 1000
def l50_3 (v : V50_3) : Option (X50_3) := iter (q50_3 K84 G84 K85 G85) (b50_3 v) v
def kL50_3 (v : V50_3) : Bool := (l50_3 v).isSome
def xL50_3 (v : V50_3) : X50_3 := (l50_3 v).getD (((0, 0), ()), ())
def r50 (k84 : Den A84 → Bool) (g84 : Den A84 → Den R84) (k85 : Den A85 → Bool) (g85 : Den A85 → Den R85) (kl3 : V50_3 → Bool) (xl3 : V50_3 → X50_3) (x : Den A50) : Option (Den R50) :=
  let v0 := (k84 x)
  bif (v0) then
    let v1 := (g84 x)
    let v2 := (kl3 (((4607182418800017408, 0), v1), ()))
    bif (v2) then
      let v3 := (xl3 (((4607182418800017408, 0), v1), ()))
      some (((v3.fst.fst.1), (v3.fst.fst.2)), ())
    else
      none
  else
    none
theorem ev50 (k84 : Den A84 → Bool) (g84 : Den A84 → Den R84) (k85 : Den A85 → Bool) (g85 : Den A85 → Den R85) (kl3 : V50_3 → Bool) (xl3 : V50_3 → X50_3) (x : Den A50) : callK (Γ50 k84 g84 k85 g85 kl3 xl3) (bodyOf Try.f50) (decR R50) (encA A50 x) [] = r50 k84 g84 k85 g85 kl3 xl3 x := by kernel_rfl
def F50 (x : Den A50) : Option (Den R50) := r50 K84 G84 K85 G85 kL50_3 xL50_3 x
def K50 (x : Den A50) : Bool := (F50 x).isSome
def G50 (x : Den A50) : Den R50 := (F50 x).getD (zero R50)
theorem env50 : EnvOK Try.prog (Γ50 K84 G84 K85 G85 kL50_3 xL50_3) := env_ok mixed tab_ok eqs_ok (.cons sem84 (.cons sem85 .nil))
theorem is50 : FnIs Try.prog 50 (Γ50 K84 G84 K85 G85 kL50_3 xL50_3) (bodyOf Try.f50) := fnIs Try.func50 rfl rfl rfl (by kernel_rfl) (loops_ok (l := [lc50_3]) (by kernel_rfl) (.cons (one_loop rfl (loopX_sound (sh := sh50_3) (shX := shX50_3) (fun f v => evl50_3 K84 G84 K85 G85 kL50_3 xL50_3 f v) b50_3 (((0, 0), ()), ()))) (.nil)))
theorem sem50 : SemOK Try.prog (50, fnMean A50 R50 K50 G50) := fn_opt env50 is50 fun x => ev50 K84 G84 K85 G85 kL50_3 xL50_3 x

/- "loop.example/g03321/impl.along" -/
abbrev A115 : Ty := .cons (.cpx .f64) (.cons (.flt .f32) (.nil))
abbrev R115 : Ty := .cons (.cpx .f32) (.nil)
noncomputable def Γ115 : Env := mkEnv tab eqs [] 16 [.tmp 4] [] [] [] [] []
def r115 (x : Den A115) : Option (Den R115) :=
  bif ((convF FloatKind.f64 FloatKind.f32 x.fst.fst).1) then
    bif ((convF FloatKind.f64 FloatKind.f32 x.fst.snd).1) then
      let v0 := (farith BinOp.mul FloatKind.f32 (convF FloatKind.f64 FloatKind.f32 x.fst.fst).snd x.snd.fst)
      let v1 := (farith BinOp.mul FloatKind.f32 (convF FloatKind.f64 FloatKind.f32 x.fst.snd).snd x.snd.fst)
      some (((v0), (v1)), ())
    else
      none
  else
    none
theorem ev115 (x : Den A115) : callK (Γ115) (bodyOf Try.f115) (decR R115) (encA A115 x) [] = r115 x := by kernel_rfl
def F115 (x : Den A115) : Option (Den R115) := r115 x
def K115 (x : Den A115) : Bool := (F115 x).isSome
def G115 (x : Den A115) : Den R115 := (F115 x).getD (zero R115)
theorem env115 : EnvOK Try.prog (Γ115) := env_ok mixed tab_ok eqs_ok .nil
theorem is115 : FnIs Try.prog 115 (Γ115) (bodyOf Try.f115) := fnIs Try.func115 rfl rfl rfl (by kernel_rfl) (noLoops (by kernel_rfl))
theorem sem115 : SemOK Try.prog (115, fnMean A115 R115 K115 G115) := fn_opt env115 is115 fun x => ev115 x

/- "loop.example/g03321/impl.Velocity" -/
abbrev A110 : Ty := .cons (.int .i64) (.cons (.flt .f32) (.nil))
abbrev R110 : Ty := .cons (.cpx .f32) (.cons (.bool) (.nil))
noncomputable def Γ110 (k109 : Den A109 → Bool) (g109 : Den A109 → Den R109) (k50 : Den A50 → Bool) (g50 : Den A50 → Den R50) (k115 : Den A115 → Bool) (g115 : Den A115 → Den R115) : Env := mkEnv tab eqs [(109, fnMean A109 R109 k109 g109), (50, fnMean A50 R50 k50 g50), (115, fnMean A115 R115 k115 g115)] 13 [.tmp 4, .tmp 5] [] [] [] [] []
def r110 (k109 : Den A109 → Bool) (g109 : Den A109 → Den R109) (k50 : Den A50 → Bool) (g50 : Den A50 → Den R50) (k115 : Den A115 → Bool) (g115 : Den A115 → Den R115) (x : Den A110) : Option (Den R110) :=
  let v0 := (k109 x.snd)
  bif (v0) then
    let v1 := (g109 x.snd)
    bif (!v1.fst) then
      some (((0), (0)), ((false), ()))
    else
      let v2 := (k50 (x.fst, ()))
      bif (v2) then
        let v3 := (g50 (x.fst, ()))
        let v4 := (k115 (v3.fst, x.snd))
        bif (v4) then
          let v5 := (g115 (v3.fst, x.snd))
          some (((v5.fst.1), (v5.fst.2)), ((true), ()))
        else
          none
      else
        none
  else
    none
theorem ev110 (k109 : Den A109 → Bool) (g109 : Den A109 → Den R109) (k50 : Den A50 → Bool) (g50 : Den A50 → Den R50) (k115 : Den A115 → Bool) (g115 : Den A115 → Den R115) (x : Den A110) : callK (Γ110 k109 g109 k50 g50 k115 g115) (bodyOf Try.f110) (decR R110) (encA A110 x) [] = r110 k109 g109 k50 g50 k115 g115 x := by kernel_rfl
def F110 (x : Den A110) : Option (Den R110) := r110 K109 G109 K50 G50 K115 G115 x
def K110 (x : Den A110) : Bool := (F110 x).isSome
def G110 (x : Den A110) : Den R110 := (F110 x).getD (zero R110)
theorem env110 : EnvOK Try.prog (Γ110 K109 G109 K50 G50 K115 G115) := env_ok mixed tab_ok eqs_ok (.cons sem109 (.cons sem50 (.cons sem115 .nil)))
theorem is110 : FnIs Try.prog 110 (Γ110 K109 G109 K50 G50 K115 G115) (bodyOf Try.f110) := fnIs Try.func110 rfl rfl rfl (by kernel_rfl) (noLoops (by kernel_rfl))
theorem sem110 : SemOK Try.prog (110, fnMean A110 R110 K110 G110) := fn_opt env110 is110 fun x => ev110 K109 G109 K50 G50 K115 G115 x

/- "loop.example/g03321/impl.drifted" -/
abbrev A111 : Ty := .cons (.cpx .f32) (.cons (.cpx .f32) (.nil))
abbrev R111 : Ty := .cons (.cpx .f32) (.nil)
noncomputable def Γ111 : Env := mkEnv tab eqs [] 16 [.tmp 4] [] [] [] [] []
def r111 (x : Den A111) : Option (Den R111) :=
  let v0 := (farith BinOp.add FloatKind.f32 x.fst.fst x.snd.fst.fst)
  let v1 := (farith BinOp.add FloatKind.f32 x.fst.snd x.snd.fst.snd)
  some (((v0), (v1)), ())
theorem ev111 (x : Den A111) : callK (Γ111) (bodyOf Try.f111) (decR R111) (encA A111 x) [] = r111 x := by kernel_rfl
def F111 (x : Den A111) : Option (Den R111) := r111 x
def K111 (x : Den A111) : Bool := (F111 x).isSome
def G111 (x : Den A111) : Den R111 := (F111 x).getD (zero R111)
theorem env111 : EnvOK Try.prog (Γ111) := env_ok mixed tab_ok eqs_ok .nil
theorem is111 : FnIs Try.prog 111 (Γ111) (bodyOf Try.f111) := fnIs Try.func111 rfl rfl rfl (by kernel_rfl) (noLoops (by kernel_rfl))
theorem sem111 : SemOK Try.prog (111, fnMean A111 R111 K111 G111) := fn_opt env111 is111 fun x => ev111 x

/- "loop.example/g03321/impl.OverGround" -/
abbrev A93 : Ty := .cons (.int .i64) (.cons (.flt .f32) (.cons (.cpx .f32) (.nil)))
abbrev R93 : Ty := .cons (.cpx .f32) (.cons (.bool) (.nil))
noncomputable def Γ93 (k110 : Den A110 → Bool) (g110 : Den A110 → Den R110) (k103 : Den A103 → Bool) (g103 : Den A103 → Den R103) (k111 : Den A111 → Bool) (g111 : Den A111 → Den R111) : Env := mkEnv tab eqs [(110, fnMean A110 R110 k110 g110), (103, fnMean A103 R103 k103 g103), (111, fnMean A111 R111 k111 g111)] 26 [.tmp 6, .tmp 7] [] [] [] [] []
def r93 (k110 : Den A110 → Bool) (g110 : Den A110 → Den R110) (k103 : Den A103 → Bool) (g103 : Den A103 → Den R103) (k111 : Den A111 → Bool) (g111 : Den A111 → Den R111) (x : Den A93) : Option (Den R93) :=
  let v0 := (k110 (x.fst, x.snd.fst, ()))
  bif (v0) then
    let v1 := (g110 (x.fst, x.snd.fst, ()))
    bif (!v1.snd.fst) then
      some (((0), (0)), ((false), ()))
    else
      let v2 := (k103 x.snd.snd)
      bif (v2) then
        let v3 := (g103 x.snd.snd)
        bif (!v3.fst) then
          some (((0), (0)), ((false), ()))
        else
          let v4 := (k111 (v1.fst, x.snd.snd))
          bif (v4) then
            let v5 := (g111 (v1.fst, x.snd.snd))
            some (((v5.fst.1), (v5.fst.2)), ((true), ()))
          else
            none
      else
        none
  else
    none
theorem ev93 (k110 : Den A110 → Bool) (g110 : Den A110 → Den R110) (k103 : Den A103 → Bool) (g103 : Den A103 → Den R103) (k111 : Den A111 → Bool) (g111 : Den A111 → Den R111) (x : Den A93) : callK (Γ93 k110 g110 k103 g103 k111 g111) (bodyOf Try.f93) (decR R93) (encA A93 x) [] = r93 k110 g110 k103 g103 k111 g111 x := by kernel_rfl
def F93 (x : Den A93) : Option (Den R93) := r93 K110 G110 K103 G103 K111 G111 x
def K93 (x : Den A93) : Bool := (F93 x).isSome
def G93 (x : Den A93) : Den R93 := (F93 x).getD (zero R93)
theorem env93 : EnvOK Try.prog (Γ93 K110 G110 K103 G103 K111 G111) := env_ok mixed tab_ok eqs_ok (.cons sem110 (.cons sem103 (.cons sem111 .nil)))
theorem is93 : FnIs Try.prog 93 (Γ93 K110 G110 K103 G103 K111 G111) (bodyOf Try.f93) := fnIs Try.func93 rfl rfl rfl (by kernel_rfl) (noLoops (by kernel_rfl))
theorem sem93 : SemOK Try.prog (93, fnMean A93 R93 K93 G93) := fn_opt env93 is93 fun x => ev93 K110 G110 K103 G103 K111 G111 x

/- "loop.example/g03321/impl.StepOn" -/
abbrev A94 : Ty := .cons (.cpx .f64) (.cons (.cpx .f32) (.cons (.int .i64) (.nil)))
abbrev R94 : Ty := .cons (.cpx .f64) (.cons (.bool) (.nil))
noncomputable def Γ94 (k41 : Den A41 → Bool) (g41 : Den A41 → Den R41) (k103 : Den A103 → Bool) (g103 : Den A103 → Den R103) (k48 : Den A48 → Bool) (g48 : Den A48 → Den R48) : Env := mkEnv tab eqs [(41, fnMean A41 R41 k41 g41), (103, fnMean A103 R103 k103 g103), (48, fnMean A48 R48 k48 g48)] 46 [.tmp 6, .tmp 7] [] [] [] [] []
def r94 (k41 : Den A41 → Bool) (g41 : Den A41 → Den R41) (k103 : Den A103 → Bool) (g103 : Den A103 → Den R103) (k48 : Den A48 → Bool) (g48 : Den A48 → Den R48) (x : Den A94) : Option (Den R94) :=
  let v0 := (k41 (x.fst, ()))
  bif (v0) then
    let v1 := (g41 (x.fst, ()))
    bif (!v1.fst) then
      some (((0), (0)), ((false), ()))
    else
      let v2 := (k103 (x.snd.fst, ()))
      bif (v2) then
        let v3 := (g103 (x.snd.fst, ()))
        bif (!v3.fst) then
          some (((0), (0)), ((false), ()))
        else
          let v4 := (k48 (x.snd.snd.fst, 0, 100000, ()))
          bif (v4) then
            let v5 := (g48 (x.snd.snd.fst, 0, 100000, ()))
            bif (!v5.fst) then
              some (((0), (0)), ((false), ()))
            else
              let v6 := (farith BinOp.mul FloatKind.f64 (convF FloatKind.f32 FloatKind.f64 x.snd.fst.fst).snd (FloatKind.nearest FloatKind.f64 x.snd.snd.fst))
              let v7 := (farith BinOp.add FloatKind.f64 x.fst.fst v6)
              let v8 := (farith BinOp.mul FloatKind.f64 (convF FloatKind.f32 FloatKind.f64 x.snd.fst.snd).snd (FloatKind.nearest FloatKind.f64 x.snd.snd.fst))
              let v9 := (farith BinOp.add FloatKind.f64 x.fst.snd v8)
              let v10 := (k41 ((v7, v9), ()))
              bif (v10) then
                let v11 := (g41 ((v7, v9), ()))
                bif (!v11.fst) then
                  some (((0), (0)), ((false), ()))
                else
                  some (((v7), (v9)), ((true), ()))
              else
                none
          else
            none
      else
        none
  else
    none
theorem ev94 (k41 : Den A41 → Bool) (g41 : Den A41 → Den R41) (k103 : Den A103 → Bool) (g103 : Den A103 → Den R103) (k48 : Den A48 → Bool) (g48 : Den A48 → Den R48) (x : Den A94) : callK (Γ94 k41 g41 k103 g103 k48 g48) (bodyOf Try.f94) (decR R94) (encA A94 x) [] = r94 k41 g41 k103 g103 k48 g48 x := by kernel_rfl
def F94 (x : Den A94) : Option (Den R94) := r94 K41 G41 K103 G103 K48 G48 x
def K94 (x : Den A94) : Bool := (F94 x).isSome
def G94 (x : Den A94) : Den R94 := (F94 x).getD (zero R94)
theorem env94 : EnvOK Try.prog (Γ94 K41 G41 K103 G103 K48 G48) := env_ok mixed tab_ok eqs_ok (.cons sem41 (.cons sem103 (.cons sem48 .nil)))
theorem is94 : FnIs Try.prog 94 (Γ94 K41 G41 K103 G103 K48 G48) (bodyOf Try.f94) := fnIs Try.func94 rfl rfl rfl (by kernel_rfl) (noLoops (by kernel_rfl))
theorem sem94 : SemOK Try.prog (94, fnMean A94 R94 K94 G94) := fn_opt env94 is94 fun x => ev94 K41 G41 K103 G103 K48 G48 x

/- "loop.example/g03321/impl.sailed" -/
abbrev A63 : Ty := .cons (.cpx .f64) (.cons (S53) (.cons (.int .i64) (.cons (.cpx .f32) (.nil))))
abbrev R63 : Ty := .cons (.cpx .f64) (.cons (.bool) (.nil))
noncomputable def Γ63 (k93 : Den A93 → Bool) (g93 : Den A93 → Den R93) (k94 : Den A94 → Bool) (g94 : Den A94 → Den R94) : Env := mkEnv tab eqs [(93, fnMean A93 R93 k93 g93), (94, fnMean A94 R94 k94 g94)] 29 [.tmp 8, .tmp 9] [] [] [] [] []
def r63 (k93 : Den A93 → Bool) (g93 : Den A93 → Den R93) (k94 : Den A94 → Bool) (g94 : Den A94 → Den R94) (x : Den A63) : Option (Den R63) :=
  let v0 := (k93 (x.snd.fst.fst, x.snd.fst.snd.fst, x.snd.snd.snd))
  bif (v0) then
    let v1 := (g93 (x.snd.fst.fst, x.snd.fst.snd.fst, x.snd.snd.snd))
    bif (!v1.snd.fst) then
      some (((0), (0)), ((false), ()))
    else
      let v2 := (k94 (x.fst, v1.fst, x.snd.snd.fst, ()))
      bif (v2) then
        let v3 := (g94 (x.fst, v1.fst, x.snd.snd.fst, ()))
        some (((v3.fst.1), (v3.fst.2)), ((v3.snd.1), ()))
      else
        none
  else
    none
theorem ev63 (k93 : Den A93 → Bool) (g93 : Den A93 → Den R93) (k94 : Den A94 → Bool) (g94 : Den A94 → Den R94) (x : Den A63) : callK (Γ63 k93 g93 k94 g94) (bodyOf Try.f63) (decR R63) (encA A63 x) [] = r63 k93 g93 k94 g94 x := by kernel_rfl
def F63 (x : Den A63) : Option (Den R63) := r63 K93 G93 K94 G94 x
def K63 (x : Den A63) : Bool := (F63 x).isSome
def G63 (x : Den A63) : Den R63 := (F63 x).getD (zero R63)
theorem env63 : EnvOK Try.prog (Γ63 K93 G93 K94 G94) := env_ok mixed tab_ok eqs_ok (.cons sem93 (.cons sem94 .nil))
theorem is63 : FnIs Try.prog 63 (Γ63 K93 G93 K94 G94) (bodyOf Try.f63) := fnIs Try.func63 rfl rfl rfl (by kernel_rfl) (noLoops (by kernel_rfl))
theorem sem63 : SemOK Try.prog (63, fnMean A63 R63 K63 G63) := fn_opt env63 is63 fun x => ev63 K93 G93 K94 G94 x

/- "loop.example/g03321/impl.RunTide" -/
abbrev A21 : Ty := .cons (.cpx .f64) (.cons (.int .i64) (.cons (.slice (S53)) (.cons (S48) (.nil))))
abbrev R21 : Ty := .cons (.cpx .f64) (.cons (.bool) (.nil))
abbrev V21_4 : Type := (((Nat × Nat) × (Int × (Unit × ((List (Den (S53))) × (Int × (Int × Unit)))))) × (((List (Den (S96))) × ((List (Den (.int .i64))) × Unit)) × Unit))
def sh21_4 : ShS := ⟨[(0, .one (.cpx .f64)), (1, .one (.int .i64)), (7, .one (.ptr 0 0)), (25, .one (.sl (S53))), (26, .one (.int .i64)), (27, .one (.int .i64))], [(0, .box [.sl (S96), .sl (.int .i64)])], 1, 0⟩
abbrev X21_4 : Type := (((Nat × Nat) × Unit) × Unit)
def shX21_4 : ShS := ⟨[(0, .one (.cpx .f64))], [], 0, 0⟩
abbrev Y21_4 : Type := (((Nat × Nat) × (Bool × Unit)) × Unit)
def shY21_4 : ShS := ⟨[(8, .one (.cpx .f64)), (9, .one (.bool))], [], 0, 0⟩
abbrev V21_7 : Type := (((Nat × Nat) × (Int × (Unit × (Unit × (Int × ((List (Den (S53))) × (Int × (Int × Unit)))))))) × (((List (Den (S96))) × ((List (Den (.int .i64))) × Unit)) × ((Int × (Nat × (Int × Unit))) × Unit)))
def sh21_7 : ShS := ⟨[(0, .one (.cpx .f64)), (1, .one (.int .i64)), (7, .one (.ptr 0 0)), (11, .one (.ptr 1 0)), (12, .one (.int .i64)), (25, .one (.sl (S53))), (26, .one (.int .i64)), (27, .one (.int .i64))], [(0, .box [.sl (S96), .sl (.int .i64)]), (1, .box [.int .i64, .flt .f32, .int .i64])], 2, 0⟩
abbrev X21_7 : Type := (((Nat × Nat) × (Int × (Unit × ((List (Den (S53))) × (Int × (Int × Unit)))))) × (((List (Den (S96))) × ((List (Den (.int .i64))) × Unit)) × Unit))
def shX21_7 : ShS := ⟨[(0, .one (.cpx .f64)), (1, .one (.int .i64)), (7, .one (.ptr 0 0)), (25, .one (.sl (S53))), (26, .one (.int .i64)), (27, .one (.int .i64))], [(0, .box [.sl (S96), .sl (.int .i64)])], 1, 0⟩
abbrev Y21_7 : Type := (((Nat × Nat) × (Bool × Unit)) × Unit)
def shY21_7 : ShS := ⟨[(8, .one (.cpx .f64)), (9, .one (.bool))], [], 0, 0⟩
noncomputable def Γ21 (k41 : Den A41 → Bool) (g41 : Den A41 → Den R41) (k62 : Den A62 → Bool) (g62 : Den A62 → Den R62) (k28 : Den A28 → Bool) (g28 : Den A28 → Den R28) (k63 : Den A63 → Bool) (g63 : Den A63 → Den R63) (kl4 : V21_4 → Bool) (xl4 : V21_4 → X21_4) (tl4 : V21_4 → Bool) (yl4 : V21_4 → Y21_4) (kl7 : V21_7 → Bool) (xl7 : V21_7 → X21_7) (tl7 : V21_7 → Bool) (yl7 : V21_7 → Y21_7) : Env := mkEnv tab eqs [(41, fnMean A41 R41 k41 g41), (62, fnMean A62 R62 k62 g62), (28, fnMean A28 R28 k28 g28), (63, fnMean A63 R63 k63 g63)] 65 [.tmp 8, .tmp 9] [] [] [(4, loopR [0, 1, 7, 25, 26, 27] [] 0 [0] [] sh21_4 shX21_4 shY21_4 kl4 tl4 xl4 yl4), (7, loopR [0, 1, 7, 11, 12, 25, 26, 27] [] 2 [0, 1, 7, 25, 26, 27] [] sh21_7 shX21_7 shY21_7 kl7 tl7 xl7 yl7)] [] []
noncomputable def lc21_4 : Code := (loopsOf (bodyOf Try.f21)).getD 0 .skip
noncomputable def lc21_7 : Code := (loopsOf (bodyOf Try.f21)).getD 1 .skip
def q21_7 (k41 : Den A41 → Bool) (g41 : Den A41 → Den R41) (k62 : Den A62 → Bool) (g62 : Den A62 → Den R62) (k28 : Den A28 → Bool) (g28 : Den A28 → Den R28) (k63 : Den A63 → Bool) (g63 : Den A63 → Den R63) (f : V21_7 → Option (X21_7 ⊕ Y21_7)) (v : V21_7) : Option (X21_7 ⊕ Y21_7) :=
  bif (decide (v.fst.snd.snd.snd.snd.fst > 0)) then
    let v0 := (k28 (v.snd.fst, v.fst.fst, v.fst.snd.fst, ()))
    bif (v0) then
      let v1 := (g28 (v.snd.fst, v.fst.fst, v.fst.snd.fst, ()))
      bif (!v1.snd.fst) then
        some (Sum.inr ((((0), (0)), ((false), ())), ()))
      else
        let v2 := (k63 (v.fst.fst, v.snd.snd.fst, imin v.fst.snd.snd.snd.snd.fst 600, v1.fst, ()))
        bif (v2) then
          let v3 := (g63 (v.fst.fst, v.snd.snd.fst, imin v.fst.snd.snd.snd.snd.fst 600, v1.fst, ()))
          bif (!v3.snd.fst) then
            some (Sum.inr ((((0), (0)), ((false), ())), ()))
          else
            let v4 := (IntKind.wrap IntKind.i64 (v.fst.snd.fst + imin v.fst.snd.snd.snd.snd.fst 600))
            let v5 := (IntKind.wrap IntKind.i64 (v.fst.snd.snd.snd.snd.fst - imin v.fst.snd.snd.snd.snd.fst 600))
            f ((((v3.fst.1), (v3.fst.2)), ((v4), ((), ((), ((v5), ((v.fst.snd.snd.snd.snd.snd.1), ((v.fst.snd.snd.snd.snd.snd.snd.1), ((v.fst.snd.snd.snd.snd.snd.snd.snd.1), ())))))))), (((v.snd.fst.1), ((v.snd.fst.snd.1), ())), (((v.snd.snd.fst.1), ((v.snd.snd.fst.snd.1), ((v.snd.snd.fst.snd.snd.1), ()))), ())))
        else
          none
    else
      none
  else
    some (Sum.inl ((((v.fst.fst.1), (v.fst.fst.2)), ((v.fst.snd.1), ((), ((v.fst.snd.snd.snd.snd.snd.1), ((v.fst.snd.snd.snd.snd.snd.snd.1), ((v.fst.snd.snd.snd.snd.snd.snd.snd.1), ())))))), (((v.snd.fst.1), ((v.snd.fst.snd.1), ())), ())))
theorem evl21_7 (k41 : Den A41 → Bool) (g41 : Den A41 → Den R41) (k62 : Den A62 → Bool) (g62 : Den A62 → Den R62) (k28 : Den A28 → Bool) (g28 : Den A28 → Den R28) (k63 : Den A63 → Bool) (g63 : Den A63 → Den R63) (kl4 : V21_4 → Bool) (xl4 : V21_4 → X21_4) (tl4 : V21_4 → Bool) (yl4 : V21_4 → Y21_4) (kl7 : V21_7 → Bool) (xl7 : V21_7 → X21_7) (tl7 : V21_7 → Bool) (yl7 : V21_7 → Y21_7) (f : V21_7 → Option (X21_7 ⊕ Y21_7)) (v : V21_7) : EBk (Γ21 k41 g41 k62 g62 k28 g28 k63 g63 kl4 xl4 tl4 yl4 kl7 xl7 tl7 yl7) lc21_7 (roundK [0, 1, 7, 11, 12, 25, 26, 27] [] 2 [0, 1, 7, 25, 26, 27] [] (atS sh21_7 f) (endS shX21_7 shY21_7)) (mkS sh21_7 v) = q21_7 k41 g41 k62 g62 k28 g28 k63 g63 f v := by kernel_rfl
def b21_7 (v : V21_7) : Nat := v.1.2.1.natAbs + v.1.2.2.2.2.1.natAbs + v.1.2.2.2.2.2.1.length + v.1.2.2.2.2.2.2.1.natAbs + v.1.2.2.2.2.2.2.2.1.natAbs + v.2.1.1.length + v.2.1.2.1.length + v.2.2.1.1.natAbs + v.2.2.1.2.2.1.natAbs + 1000
def l21_7 (v : V21_7) : Option (X21_7 ⊕ Y21_7) := iter (q21_7 K41 G41 K62 G62 K28 G28 K63 G63) (b21_7 v) v
def kL21_7 (v : V21_7) : Bool := (l21_7 v).isSome
def tL21_7 (v : V21_7) : Bool := isR (l21_7 v)
def xL21_7 (v : V21_7) : X21_7 := xOf (((0, 0), (0, ((), ([], (0, (0, ())))))), (([], ([], ())), ())) (l21_7 v)
def yL21_7 (v : V21_7) : Y21_7 := yOf (((0, 0), (false, ())), ()) (l21_7 v)
def q21_4 (k41 : Den A41 → Bool) (g41 : Den A41 → Den R41) (k62 : Den A62 → Bool) (g62 : Den A62 → Den R62) (k28 : Den A28 → Bool) (g28 : Den A28 → Den R28) (k63 : Den A63 → Bool) (g63 : Den A63 → Den R63) (kl7 : V21_7 → Bool) (xl7 : V21_7 → X21_7) (tl7 : V21_7 → Bool) (yl7 : V21_7 → Y21_7) (f : V21_4 → Option (X21_4 ⊕ Y21_4)) (v : V21_4) : Option (X21_4 ⊕ Y21_4) :=
  bif (decide (v.fst.snd.snd.snd.snd.snd.fst < v.fst.snd.snd.snd.snd.fst)) then
    bif (decide (0 ≤ v.fst.snd.snd.snd.snd.snd.fst) && decide (v.fst.snd.snd.snd.snd.snd.fst < (↑(List.length v.fst.snd.snd.snd.fst) : Int))) then
      let v0 := (List.getD v.fst.snd.snd.snd.fst (Int.toNat v.fst.snd.snd.snd.snd.snd.fst) (zero S53))
      let v1 := (kl7 ((v.fst.fst, v.fst.snd.fst, (), (), v0.snd.snd.fst, v.fst.snd.snd.snd), v.snd.fst, v0, ()))
      bif (v1) then
        let v2 := (tl7 ((v.fst.fst, v.fst.snd.fst, (), (), v0.snd.snd.fst, v.fst.snd.snd.snd), v.snd.fst, v0, ()))
        bif (v2) then
          let v3 := (yl7 ((v.fst.fst, v.fst.snd.fst, (), (), v0.snd.snd.fst, v.fst.snd.snd.snd), v.snd.fst, v0, ()))
          some (Sum.inr ((((v3.fst.fst.1), (v3.fst.fst.2)), ((v3.fst.snd.1), ())), ()))
        else
          let v3 := (xl7 ((v.fst.fst, v.fst.snd.fst, (), (), v0.snd.snd.fst, v.fst.snd.snd.snd), v.snd.fst, v0, ()))
          let v4 := (IntKind.wrap IntKind.i64 (v3.fst.snd.snd.snd.snd.snd.fst + 1))
          f ((((v3.fst.fst.1), (v3.fst.fst.2)), ((v3.fst.snd.1), ((), ((v3.fst.snd.snd.snd.1), ((v3.fst.snd.snd.snd.snd.1), ((v4), ())))))), (((v3.snd.fst.1), ((v3.snd.fst.snd.1), ())), ()))
      else
        none
    else
      none
  else
    some (Sum.inl ((((v.fst.fst.1), (v.fst.fst.2)), ()), ()))
theorem evl21_4 (k41 : Den A41 → Bool) (g41 : Den A41 → Den R41) (k62 : Den A62 → Bool) (g62 : Den A62 → Den R62) (k28 : Den A28 → Bool) (g28 : Den A28 → Den R28) (k63 : Den A63 → Bool) (g63 : Den A63 → Den R63) (kl4 : V21_4 → Bool) (xl4 : V21_4 → X21_4) (tl4 : V21_4 → Bool) (yl4 : V21_4 → Y21_4) (kl7 : V21_7 → Bool) (xl7 : V21_7 → X21_7) (tl7 : V21_7 → Bool) (yl7 : V21_7 → Y21_7) (f : V21_4 → Option (X21_4 ⊕ Y21_4)) (v : V21_4) : EBk (Γ21 k41 g41 k62 g62 k28 g28 k63 g63 kl4 xl4 tl4 yl4 kl7 xl7 tl7 yl7) lc21_4 (roundK [0, 1, 7, 25, 26, 27] [] 0 [0] [] (atS sh21_4 f) (endS shX21_4 shY21_4)) (mkS sh21_4 v) = q21_4 k41 g41 k62 g62 k28 g28 k63 g63 kl7 xl7 tl7 yl7 f v := by kernel_rfl
def b21_4 (v : V21_4) : Nat := v.1.2.1.natAbs + v.1.2.2.2.1.length + v.1.2.2.2.2.1.natAbs + v.1.2.2.2.2.2.1.natAbs + v.2.1.1.length + v.2.1.2.1.length + 1000
def l21_4 (v : V21_4) : Option (X21_4 ⊕ Y21_4) := iter (q21_4 K41 G41 K62 G62 K28 G28 K63 G63 kL21_7 xL21_7 tL21_7 yL21_7) (b21_4 v) v
def kL21_4 (v : V21_4) : Bool := (l21_4 v).isSome
def tL21_4 (v : V21_4) : Bool := isR (l21_4 v)
def xL21_4 (v : V21_4) : X21_4 := xOf (((0, 0), ()), ()) (l21_4 v)
def yL21_4 (v : V21_4) : Y21_4 := yOf (((0, 0), (false, ())), ()) (l21_4 v)
def r21 (k41 : Den A41 → Bool) (g41 : Den A41 → Den R41) (k62 : Den A62 → Bool) (g62 : Den A62 → Den R62) (k28 : Den A28 → Bool) (g28 : Den A28 → Den R28) (k63 : Den A63 → Bool) (g63 : Den A63 → Den R63) (kl4 : V21_4 → Bool) (xl4 : V21_4 → X21_4) (tl4 : V21_4 → Bool) (yl4 : V21_4 → Y21_4) (kl7 : V21_7 → Bool) (xl7 : V21_7 → X21_7) (tl7 : V21_7 → Bool) (yl7 : V21_7 → Y21_7) (x : Den A21) : Option (Den R21) :=
  let v0 := (k41 (x.fst, ()))
  bif (v0) then
    let v1 := (g41 (x.fst, ()))
    bif (!v1.fst) then
      some (((0), (0)), ((false), ()))
    else
      let v2 := (k62 (x.snd.snd.fst, ()))
      bif (v2) then
        let v3 := (g62 (x.snd.snd.fst, ()))
        bif (!v3.fst) then
          some (((0), (0)), ((false), ()))
        else
          let v4 := (kl4 ((x.fst, x.snd.fst, (), x.snd.snd.fst, (↑(List.length x.snd.snd.fst) : Int), 0, ()), x.snd.snd.snd))
          bif (v4) then
            let v5 := (tl4 ((x.fst, x.snd.fst, (), x.snd.snd.fst, (↑(List.length x.snd.snd.fst) : Int), 0, ()), x.snd.snd.snd))
            bif (v5) then
              let v6 := (yl4 ((x.fst, x.snd.fst, (), x.snd.snd.fst, (↑(List.length x.snd.snd.fst) : Int), 0, ()), x.snd.snd.snd))
              some (((v6.fst.fst.1), (v6.fst.fst.2)), ((v6.fst.snd.1), ()))
            else
              let v6 := (xl4 ((x.fst, x.snd.fst, (), x.snd.snd.fst, (↑(List.length x.snd.snd.fst) : Int), 0, ()), x.snd.snd.snd))
              some (((v6.fst.fst.1), (v6.fst.fst.2)), ((true), ()))
          else
            none
      else
        none
  else
    none
theorem ev21 (k41 : Den A41 → Bool) (g41 : Den A41 → Den R41) (k62 : Den A62 → Bool) (g62 : Den A62 → Den R62) (k28 : Den A28 → Bool) (g28 : Den A28 → Den R28) (k63 : Den A63 → Bool) (g63 : Den A63 → Den R63) (kl4 : V21_4 → Bool) (xl4 : V21_4 → X21_4) (tl4 : V21_4 → Bool) (yl4 : V21_4 → Y21_4) (kl7 : V21_7 → Bool) (xl7 : V21_7 → X21_7) (tl7 : V21_7 → Bool) (yl7 : V21_7 → Y21_7) (x : Den A21) : callK (Γ21 k41 g41 k62 g62 k28 g28 k63 g63 kl4 xl4 tl4 yl4 kl7 xl7 tl7 yl7) (bodyOf Try.f21) (decR R21) (encA A21 x) [] = r21 k41 g41 k62 g62 k28 g28 k63 g63 kl4 xl4 tl4 yl4 kl7 xl7 tl7 yl7 x := by kernel_rfl
def F21 (x : Den A21) : Option (Den R21) := r21 K41 G41 K62 G62 K28 G28 K63 G63 kL21_4 xL21_4 tL21_4 yL21_4 kL21_7 xL21_7 tL21_7 yL21_7 x
def K21 (x : Den A21) : Bool := (F21 x).isSome
def G21 (x : Den A21) : Den R21 := (F21 x).getD (zero R21)
theorem env21 : EnvOK Try.prog (Γ21 K41 G41 K62 G62 K28 G28 K63 G63 kL21_4 xL21_4 tL21_4 yL21_4 kL21_7 xL21_7 tL21_7 yL21_7) := env_ok mixed tab_ok eqs_ok (.cons sem41 (.cons sem62 (.cons sem28 (.cons sem63 .nil))))
theorem is21 : FnIs Try.prog 21 (Γ21 K41 G41 K62 G62 K28 G28 K63 G63 kL21_4 xL21_4 tL21_4 yL21_4 kL21_7 xL21_7 tL21_7 yL21_7) (bodyOf Try.f21) := fnIs Try.func21 rfl rfl rfl (by kernel_rfl) (loops_ok (l := [lc21_4, lc21_7]) (by kernel_rfl) (.cons (one_loop rfl (loopR_sound (sh := sh21_4) (shX := shX21_4) (shR := shY21_4) (fun f v => evl21_4 K41 G41 K62 G62 K28 G28 K63 G63 kL21_4 xL21_4 tL21_4 yL21_4 kL21_7 xL21_7 tL21_7 yL21_7 f v) b21_4 (((0, 0), ()), ()) (((0, 0), (false, ())), ()))) (.cons (one_loop rfl (loopR_sound (sh := sh21_7) (shX := shX21_7) (shR := shY21_7) (fun f v => evl21_7 K41 G41 K62 G62 K28 G28 K63 G63 kL21_4 xL21_4 tL21_4 yL21_4 kL21_7 xL21_7 tL21_7 yL21_7 f v) b21_7 (((0, 0), (0, ((), ([], (0, (0, ())))))), (([], ([], ())), ())) (((0, 0), (false, ())), ()))) (.nil))))
theorem sem21 : SemOK Try.prog (21, fnMean A21 R21 K21 G21) := fn_opt env21 is21 fun x => ev21 K41 G41 K62 G62 K28 G28 K63 G63 kL21_4 xL21_4 tL21_4 yL21_4 kL21_7 xL21_7 tL21_7 yL21_7 x

/- "loop.example/g03321/spec.l02Amount" -/
abbrev A64 : Ty := .cons (.flt .f64) (.nil)
abbrev R64 : Ty := .cons (.flt .f64) (.nil)
noncomputable def Γ64 : Env := mkEnv tab eqs [] 8 [.tmp 2] [] [] [] [] []
def r64 (x : Den A64) : Option (Den R64) :=
  bif (flt FloatKind.f64 x.fst 0) then
    let v0 := (fneg FloatKind.f64 x.fst)
    some ((v0), ())
  else
    some ((x.1), ())
theorem ev64 (x : Den A64) : callK (Γ64) (bodyOf Try.f64) (decR R64) (encA A64 x) [] = r64 x := by kernel_rfl
def F64 (x : Den A64) : Option (Den R64) := r64 x
def K64 (x : Den A64) : Bool := (F64 x).isSome
def G64 (x : Den A64) : Den R64 := (F64 x).getD (zero R64)
theorem env64 : EnvOK Try.prog (Γ64) := env_ok mixed tab_ok eqs_ok .nil
theorem is64 : FnIs Try.prog 64 (Γ64) (bodyOf Try.f64) := fnIs Try.func64 rfl rfl rfl (by kernel_rfl) (noLoops (by kernel_rfl))
theorem sem64 : SemOK Try.prog (64, fnMean A64 R64 K64 G64) := fn_opt env64 is64 fun x => ev64 x

/- "loop.example/g03321/spec.VectorOk" -/
abbrev A22 : Ty := .cons (.cpx .f64) (.nil)
abbrev R22 : Ty := .cons (.bool) (.nil)
noncomputable def Γ22 (k64 : Den A64 → Bool) (g64 : Den A64 → Den R64) : Env := mkEnv tab eqs [(64, fnMean A64 R64 k64 g64)] 13 [.tmp 2] [] [] [] [] []
def r22 (k64 : Den A64 → Bool) (g64 : Den A64 → Den R64) (x : Den A22) : Option (Den R22) :=
  let v0 := (k64 (x.fst.fst, ()))
  bif (v0) then
    let v1 := (g64 (x.fst.fst, ()))
    bif (flt FloatKind.f64 v1.fst 4726483295884279808 || feq FloatKind.f64 v1.fst 4726483295884279808) then
      let v2 := (k64 (x.fst.snd, ()))
      bif (v2) then
        let v3 := (g64 (x.fst.snd, ()))
        some ((flt FloatKind.f64 v3.fst 4726483295884279808 || feq FloatKind.f64 v3.fst 4726483295884279808), ())
      else
        none
    else
      some ((false), ())
  else
    none
theorem ev22 (k64 : Den A64 → Bool) (g64 : Den A64 → Den R64) (x : Den A22) : callK (Γ22 k64 g64) (bodyOf Try.f22) (decR R22) (encA A22 x) [] = r22 k64 g64 x := by kernel_rfl
def F22 (x : Den A22) : Option (Den R22) := r22 K64 G64 x
def K22 (x : Den A22) : Bool := (F22 x).isSome
def G22 (x : Den A22) : Den R22 := (F22 x).getD (zero R22)
theorem env22 : EnvOK Try.prog (Γ22 K64 G64) := env_ok mixed tab_ok eqs_ok (.cons sem64 .nil)
theorem is22 : FnIs Try.prog 22 (Γ22 K64 G64) (bodyOf Try.f22) := fnIs Try.func22 rfl rfl rfl (by kernel_rfl) (noLoops (by kernel_rfl))
theorem sem22 : SemOK Try.prog (22, fnMean A22 R22 K22 G22) := fn_opt env22 is22 fun x => ev22 K64 G64 x

/- "loop.example/g03321/spec.LegOk" -/
abbrev A23 : Ty := .cons (S53) (.nil)
abbrev R23 : Ty := .cons (.bool) (.nil)
noncomputable def Γ23 (k39 : Den A39 → Bool) (g39 : Den A39 → Den R39) : Env := mkEnv tab eqs [(39, fnMean A39 R39 k39 g39)] 16 [.tmp 2] [] [] [] [] []
def r23 (k39 : Den A39 → Bool) (g39 : Den A39 → Den R39) (x : Den A23) : Option (Den R23) :=
  bif (fgt FloatKind.f32 x.fst.snd.fst 0 || feq FloatKind.f32 x.fst.snd.fst 0) then
    bif (flt FloatKind.f32 x.fst.snd.fst 1112014848 || feq FloatKind.f32 x.fst.snd.fst 1112014848) then
      let v0 := (k39 (x.fst.snd.snd.fst, 0, 100000, ()))
      bif (v0) then
        let v1 := (g39 (x.fst.snd.snd.fst, 0, 100000, ()))
        some ((v1.1), ())
      else
        none
    else
      some ((false), ())
  else
    some ((false), ())
theorem ev23 (k39 : Den A39 → Bool) (g39 : Den A39 → Den R39) (x : Den A23) : callK (Γ23 k39 g39) (bodyOf Try.f23) (decR R23) (encA A23 x) [] = r23 k39 g39 x := by kernel_rfl
def F23 (x : Den A23) : Option (Den R23) := r23 K39 G39 x
def K23 (x : Den A23) : Bool := (F23 x).isSome
def G23 (x : Den A23) : Den R23 := (F23 x).getD (zero R23)
theorem env23 : EnvOK Try.prog (Γ23 K39 G39) := env_ok mixed tab_ok eqs_ok (.cons sem39 .nil)
theorem is23 : FnIs Try.prog 23 (Γ23 K39 G39) (bodyOf Try.f23) := fnIs Try.func23 rfl rfl rfl (by kernel_rfl) (noLoops (by kernel_rfl))
theorem sem23 : SemOK Try.prog (23, fnMean A23 R23 K23 G23) := fn_opt env23 is23 fun x => ev23 K39 G39 x

/- "loop.example/g03321/impl.SlackFrom" -/
abbrev A26 : Ty := .cons (S48) (.cons (.cpx .f64) (.cons (.int .i64) (.cons (.flt .f32) (.nil))))
abbrev R26 : Ty := .cons (.int .i64) (.cons (.bool) (.nil))
abbrev V26_2 : Type := (((Nat × Nat) × (Int × (Nat × (Unit × (Int × Unit))))) × (((List (Den (S96))) × ((List (Den (.int .i64))) × Unit)) × Unit))
def sh26_2 : ShS := ⟨[(1, .one (.cpx .f64)), (2, .one (.int .i64)), (3, .one (.flt .f32)), (4, .one (.ptr 0 0)), (10, .one (.int .i64))], [(0, .box [.sl (S96), .sl (.int .i64)])], 1, 0⟩
abbrev X26_2 : Type := (Unit × Unit)
def shX26_2 : ShS := ⟨[], [], 0, 0⟩
abbrev Y26_2 : Type := ((Int × (Bool × Unit)) × Unit)
def shY26_2 : ShS := ⟨[(8, .one (.int .i64)), (9, .one (.bool))], [], 0, 0⟩
noncomputable def Γ26 (k28 : Den A28 → Bool) (g28 : Den A28 → Den R28) (k67 : Den A67 → Bool) (g67 : Den A67 → Den R67) (kl2 : V26_2 → Bool) (xl2 : V26_2 → X26_2) (tl2 : V26_2 → Bool) (yl2 : V26_2 → Y26_2) : Env := mkEnv tab eqs [(28, fnMean A28 R28 k28 g28), (67, fnMean A67 R67 k67 g67)] 46 [.tmp 8, .tmp 9] [] [] [(2, loopR [1, 2, 3, 4, 10] [] 0 [] [] sh26_2 shX26_2 shY26_2 kl2 tl2 xl2 yl2)] [] []
noncomputable def lc26_2 : Code := (loopsOf (bodyOf Try.f26)).getD 0 .skip
def q26_2 (k28 : Den A28 → Bool) (g28 : Den A28 → Den R28) (k67 : Den A67 → Bool) (g67 : Den A67 → Den R67) (f : V26_2 → Option (X26_2 ⊕ Y26_2)) (v : V26_2) : Option (X26_2 ⊕ Y26_2) :=
  bif (decide (v.fst.snd.snd.snd.snd.fst ≤ 720)) then
    let v0 := (IntKind.wrap IntKind.i64 (60 * v.fst.snd.snd.snd.snd.fst))
    let v1 := (IntKind.wrap IntKind.i64 (v.fst.snd.fst + v0))
    let v2 := (k28 (v.snd.fst, v.fst.fst, v1, ()))
    bif (v2) then
      let v3 := (g28 (v.snd.fst, v.fst.fst, v1, ()))
      bif (v3.snd.1) then
        let v4 := (k67 (v3.fst.fst, ()))
        bif (v4) then
          let v5 := (g67 (v3.fst.fst, ()))
          bif (flt FloatKind.f32 v5.fst v.fst.snd.snd.fst || feq FloatKind.f32 v5.fst v.fst.snd.snd.fst) then
            let v6 := (k67 (v3.fst.snd, ()))
            bif (v6) then
              let v7 := (g67 (v3.fst.snd, ()))
              bif (flt FloatKind.f32 v7.fst v.fst.snd.snd.fst || feq FloatKind.f32 v7.fst v.fst.snd.snd.fst) then
                some (Sum.inr (((v1), ((true), ())), ()))
              else
                let v8 := (IntKind.wrap IntKind.i64 (v.fst.snd.snd.snd.snd.fst + 1))
                f ((((v.fst.fst.1), (v.fst.fst.2)), ((v.fst.snd.1), ((v.fst.snd.snd.1), ((), ((v8), ()))))), (((v.snd.fst.1), ((v.snd.fst.snd.1), ())), ()))
            else
              none
          else
            let v6 := (IntKind.wrap IntKind.i64 (v.fst.snd.snd.snd.snd.fst + 1))
            f ((((v.fst.fst.1), (v.fst.fst.2)), ((v.fst.snd.1), ((v.fst.snd.snd.1), ((), ((v6), ()))))), (((v.snd.fst.1), ((v.snd.fst.snd.1), ())), ()))
        else
          none
      else
        let v4 := (IntKind.wrap IntKind.i64 (v.fst.snd.snd.snd.snd.fst + 1))
        f ((((v.fst.fst.1), (v.fst.fst.2)), ((v.fst.snd.1), ((v.fst.snd.snd.1), ((), ((v4), ()))))), (((v.snd.fst.1), ((v.snd.fst.snd.1), ())), ()))
    else
      none
  else
    some (Sum.inl ((), ()))
theorem evl26_2 (k28 : Den A28 → Bool) (g28 : Den A28 → Den R28) (k67 : Den A67 → Bool) (g67 : Den A67 → Den R67) (kl2 : V26_2 → Bool) (xl2 : V26_2 → X26_2) (tl2 : V26_2 → Bool) (yl2 : V26_2 → Y26_2) (f : V26_2 → Option (X26_2 ⊕ Y26_2)) (v : V26_2) : EBk (Γ26 k28 g28 k67 g67 kl2 xl2 tl2 yl2) lc26_2 (roundK [1, 2, 3, 4, 10] [] 0 [] [] (atS sh26_2 f) (endS shX26_2 shY26_2)) (mkS sh26_2 v) = q26_2 k28 g28 k67 g67 f v := by kernel_rfl
def b26_2 (v : V26_2) : Nat := v.1.2.1.natAbs + v.1.2.2.2.2.1.natAbs + v.2.1.1.length + v.2.1.2.1.length + 1000
def l26_2 (v : V26_2) : Option (X26_2 ⊕ Y26_2) := iter (q26_2 K28 G28 K67 G67) (b26_2 v) v
def kL26_2 (v : V26_2) : Bool := (l26_2 v).isSome
def tL26_2 (v : V26_2) : Bool := isR (l26_2 v)
def xL26_2 (v : V26_2) : X26_2 := xOf ((), ()) (l26_2 v)
def yL26_2 (v : V26_2) : Y26_2 := yOf ((0, (false, ())), ()) (l26_2 v)
def r26 (k28 : Den A28 → Bool) (g28 : Den A28 → Den R28) (k67 : Den A67 → Bool) (g67 : Den A67 → Den R67) (kl2 : V26_2 → Bool) (xl2 : V26_2 → X26_2) (tl2 : V26_2 → Bool) (yl2 : V26_2 → Y26_2) (x : Den A26) : Option (Den R26) :=
  let v0 := (kl2 ((x.snd.fst, x.snd.snd.fst, x.snd.snd.snd.fst, (), 0, ()), x.fst, ()))
  bif (v0) then
    let v1 := (tl2 ((x.snd.fst, x.snd.snd.fst, x.snd.snd.snd.fst, (), 0, ()), x.fst, ()))
    bif (v1) then
      let v2 := (yl2 ((x.snd.fst, x.snd.snd.fst, x.snd.snd.snd.fst, (), 0, ()), x.fst, ()))
      some ((v2.fst.1), ((v2.fst.snd.1), ()))
    else
      some ((0), ((false), ()))
  else
    none
theorem ev26 (k28 : Den A28 → Bool) (g28 : Den A28 → Den R28) (k67 : Den A67 → Bool) (g67 : Den A67 → Den R67) (kl2 : V26_2 → Bool) (xl2 : V26_2 → X26_2) (tl2 : V26_2 → Bool) (yl2 : V26_2 → Y26_2) (x : Den A26) : callK (Γ26 k28 g28 k67 g67 kl2 xl2 tl2 yl2) (bodyOf Try.f26) (decR R26) (encA A26 x) [] = r26 k28 g28 k67 g67 kl2 xl2 tl2 yl2 x := by kernel_rfl
def F26 (x : Den A26) : Option (Den R26) := r26 K28 G28 K67 G67 kL26_2 xL26_2 tL26_2 yL26_2 x
def K26 (x : Den A26) : Bool := (F26 x).isSome
def G26 (x : Den A26) : Den R26 := (F26 x).getD (zero R26)
theorem env26 : EnvOK Try.prog (Γ26 K28 G28 K67 G67 kL26_2 xL26_2 tL26_2 yL26_2) := env_ok mixed tab_ok eqs_ok (.cons sem28 (.cons sem67 .nil))
theorem is26 : FnIs Try.prog 26 (Γ26 K28 G28 K67 G67 kL26_2 xL26_2 tL26_2 yL26_2) (bodyOf Try.f26) := fnIs Try.func26 rfl rfl rfl (by kernel_rfl) (loops_ok (l := [lc26_2]) (by kernel_rfl) (.cons (one_loop rfl (loopR_sound (sh := sh26_2) (shX := shX26_2) (shR := shY26_2) (fun f v => evl26_2 K28 G28 K67 G67 kL26_2 xL26_2 tL26_2 yL26_2 f v) b26_2 ((), ()) ((0, (false, ())), ()))) (.nil)))
theorem sem26 : SemOK Try.prog (26, fnMean A26 R26 K26 G26) := fn_opt env26 is26 fun x => ev26 K28 G28 K67 G67 kL26_2 xL26_2 tL26_2 yL26_2 x

/- "loop.example/g03321/spec.l05FlowOk" -/
abbrev A95 : Ty := .cons (S96) (.nil)
abbrev R95 : Ty := .cons (.bool) (.nil)
abbrev V95_2 : Type := ((Unit × (Int × Unit)) × (((Nat × Nat) × ((Nat × Nat) × ((Nat × Nat) × ((Nat × Nat) × ((Nat × Nat) × ((Nat × Nat) × ((Nat × Nat) × ((Nat × Nat) × ((Nat × Nat) × ((Nat × Nat) × ((Nat × Nat) × ((Nat × Nat) × ((Nat × Nat) × ((Nat × Nat) × Unit)))))))))))))) × Unit))
def sh95_2 : ShS := ⟨[(1, .one (.ptr 0 0)), (3, .one (.int .i64))], [(0, .box [.cpx .f64, .cpx .f32, .cpx .f32, .cpx .f32, .cpx .f32, .cpx .f32, .cpx .f32, .cpx .f32, .cpx .f32, .cpx .f32, .cpx .f32, .cpx .f32, .cpx .f32, .cpx .f32])], 1, 0⟩
abbrev X95_2 : Type := (Unit × Unit)
def shX95_2 : ShS := ⟨[], [], 0, 0⟩
abbrev Y95_2 : Type := ((Bool × Unit) × Unit)
def shY95_2 : ShS := ⟨[(2, .one (.bool))], [], 0, 0⟩
noncomputable def Γ95 (k78 : Den A78 → Bool) (g78 : Den A78 → Den R78) (kl2 : V95_2 → Bool) (xl2 : V95_2 → X95_2) (tl2 : V95_2 → Bool) (yl2 : V95_2 → Y95_2) : Env := mkEnv tab eqs [(78, fnMean A78 R78 k78 g78)] 14 [.tmp 2] [] [] [(2, loopR [1, 3] [] 0 [] [] sh95_2 shX95_2 shY95_2 kl2 tl2 xl2 yl2)] [] []
noncomputable def lc95_2 : Code := (loopsOf (bodyOf Try.f95)).getD 0 .skip
def q95_2 (k78 : Den A78 → Bool) (g78 : Den A78 → Den R78) (f : V95_2 → Option (X95_2 ⊕ Y95_2)) (v : V95_2) : Option (X95_2 ⊕ Y95_2) :=
  bif (decide (v.fst.snd.fst < 13)) then
    bif (decide (0 ≤ v.fst.snd.fst) && decide (v.fst.snd.fst < (↑13 : Int))) then
      let v0 := (List.getD [v.snd.fst.snd.fst, v.snd.fst.snd.snd.fst, v.snd.fst.snd.snd.snd.fst, v.snd.fst.snd.snd.snd.snd.fst, v.snd.fst.snd.snd.snd.snd.snd.fst, v.snd.fst.snd.snd.snd.snd.snd.snd.fst, v.snd.fst.snd.snd.snd.snd.snd.snd.snd.fst, v.snd.fst.snd.snd.snd.snd.snd.snd.snd.snd.fst, v.snd.fst.snd.snd.snd.snd.snd.snd.snd.snd.snd.fst, v.snd.fst.snd.snd.snd.snd.snd.snd.snd.snd.snd.snd.fst, v.snd.fst.snd.snd.snd.snd.snd.snd.snd.snd.snd.snd.snd.fst, v.snd.fst.snd.snd.snd.snd.snd.snd.snd.snd.snd.snd.snd.snd.fst, v.snd.fst.snd.snd.snd.snd.snd.snd.snd.snd.snd.snd.snd.snd.snd.fst] (Int.toNat v.fst.snd.fst) (0, 0))
      let v1 := (k78 (v0, ()))
      bif (v1) then
        let v2 := (g78 (v0, ()))
        bif (!v2.fst) then
          some (Sum.inr (((false), ()), ()))
        else
          let v3 := (IntKind.wrap IntKind.i64 (v.fst.snd.fst + 1))
          f (((), ((v3), ())), ((((v.snd.fst.fst.1), (v.snd.fst.fst.2)), (((v.snd.fst.snd.fst.1), (v.snd.fst.snd.fst.2)), (((v.snd.fst.snd.snd.fst.1), (v.snd.fst.snd.snd.fst.2)), (((v.snd.fst.snd.snd.snd.fst.1), (v.snd.fst.snd.snd.snd.fst.2)), (((v.snd.fst.snd.snd.snd.snd.fst.1), (v.snd.fst.snd.snd.snd.snd.fst.2)), (((v.snd.fst.snd.snd.snd.snd.snd.fst.1), (v.snd.fst.snd.snd.snd.snd.snd.fst.2)), (((v.snd.fst.snd.snd.snd.snd.snd.snd.fst.1), (v.snd.fst.snd.snd.snd.snd.snd.snd.fst.2)), (((v.snd.fst.snd.snd.snd.snd.snd.snd.snd.fst.1), (v.snd.fst.snd.snd.snd.snd.snd.snd.snd.fst.2)), (((v.snd.fst.snd.snd.snd.snd.snd.snd.snd.snd.fst.1), (v.snd.fst.snd.snd.snd.snd.snd.snd.snd.snd.fst.2)), (((v.snd.fst.snd.snd.snd.snd.snd.snd.snd.snd.snd.fst.1), (v.snd.fst.snd.snd.snd.snd.snd.snd.snd.snd.snd.fst.2)), (((v.snd.fst.snd.snd.snd.snd.snd.snd.snd.snd.snd.snd.fst.1), (v.snd.fst.snd.snd.snd.snd.snd.snd.snd.snd.snd.snd.fst.2)), (((v.snd.fst.snd.snd.snd.snd.snd.snd.snd.snd.snd.snd.snd.fst.1), (v.snd.fst.snd.snd.snd.snd.snd.snd.snd.snd.snd.snd.snd.fst.2)), (((v.snd.fst.snd.snd.snd.snd.snd.snd.snd.snd.snd.snd.snd.snd.fst.1), (v.snd.fst.snd.snd.snd.snd.snd.snd.snd.snd.snd.snd.snd.snd.fst.2)), (((v.snd.fst.snd.snd.snd.snd.snd.snd.snd.snd.snd.snd.snd.snd.snd.fst.1), (v.snd.fst.snd.snd.snd.snd.snd.snd.snd.snd.snd.snd.snd.snd.snd.fst.2)), ())))))))))))))), ()))
      else
        none
    else
      none
  else
    some (Sum.inl ((), ()))
theorem evl95_2 (k78 : Den A78 → Bool) (g78 : Den A78 → Den R78) (kl2 : V95_2 → Bool) (xl2 : V95_2 → X95_2) (tl2 : V95_2 → Bool) (yl2 : V95_2 → Y95_2) (f : V95_2 → Option (X95_2 ⊕ Y95_2)) (v : V95_2) : EBk (Γ95 k78 g78 kl2 xl2 tl2 yl2) lc95_2 (roundK [1, 3] [] 0 [] [] (atS sh95_2 f) (endS shX95_2 shY95_2)) (mkS sh95_2 v) = q95_2 k78 g78 f v := by kernel_rfl
def b95_2 (v : V95_2) : Nat := v.1.2.1.natAbs + 1000
def l95_2 (v : V95_2) : Option (X95_2 ⊕ Y95_2) := iter (q95_2 K78 G78) (b95_2 v) v
def kL95_2 (v : V95_2) : Bool := (l95_2 v).isSome
def tL95_2 (v : V95_2) : Bool := isR (l95_2 v)
def xL95_2 (v : V95_2) : X95_2 := xOf ((), ()) (l95_2 v)
def yL95_2 (v : V95_2) : Y95_2 := yOf ((false, ()), ()) (l95_2 v)
def r95 (k78 : Den A78 → Bool) (g78 : Den A78 → Den R78) (kl2 : V95_2 → Bool) (xl2 : V95_2 → X95_2) (tl2 : V95_2 → Bool) (yl2 : V95_2 → Y95_2) (x : Den A95) : Option (Den R95) :=
  let v0 := (kl2 (((), 0, ()), (x.fst.fst, x.fst.snd.fst), ()))
  bif (v0) then
    let v1 := (tl2 (((), 0, ()), (x.fst.fst, x.fst.snd.fst), ()))
    bif (v1) then
      let v2 := (yl2 (((), 0, ()), (x.fst.fst, x.fst.snd.fst), ()))
      some ((v2.fst.1), ())
    else
      some ((true), ())
  else
    none
theorem ev95 (k78 : Den A78 → Bool) (g78 : Den A78 → Den R78) (kl2 : V95_2 → Bool) (xl2 : V95_2 → X95_2) (tl2 : V95_2 → Bool) (yl2 : V95_2 → Y95_2) (x : Den A95) : callK (Γ95 k78 g78 kl2 xl2 tl2 yl2) (bodyOf Try.f95) (decR R95) (encA A95 x) [] = r95 k78 g78 kl2 xl2 tl2 yl2 x := by kernel_rfl
def F95 (x : Den A95) : Option (Den R95) := r95 K78 G78 kL95_2 xL95_2 tL95_2 yL95_2 x
def K95 (x : Den A95) : Bool := (F95 x).isSome
def G95 (x : Den A95) : Den R95 := (F95 x).getD (zero R95)
theorem env95 : EnvOK Try.prog (Γ95 K78 G78 kL95_2 xL95_2 tL95_2 yL95_2) := env_ok mixed tab_ok eqs_ok (.cons sem78 .nil)
theorem is95 : FnIs Try.prog 95 (Γ95 K78 G78 kL95_2 xL95_2 tL95_2 yL95_2) (bodyOf Try.f95) := fnIs Try.func95 rfl rfl rfl (by kernel_rfl) (loops_ok (l := [lc95_2]) (by kernel_rfl) (.cons (one_loop rfl (loopR_sound (sh := sh95_2) (shX := shX95_2) (shR := shY95_2) (fun f v => evl95_2 K78 G78 kL95_2 xL95_2 tL95_2 yL95_2 f v) b95_2 ((), ()) ((false, ()), ()))) (.nil)))
theorem sem95 : SemOK Try.prog (95, fnMean A95 R95 K95 G95) := fn_opt env95 is95 fun x => ev95 K78 G78 kL95_2 xL95_2 tL95_2 yL95_2 x

/- "loop.example/g03321/spec.TideOk" -/
abbrev A68 : Ty := .cons (S48) (.nil)
abbrev R68 : Ty := .cons (.bool) (.nil)
abbrev V68_4 : Type := ((Unit × (Int × Unit)) × (((List (Den (S96))) × ((List (Den (.int .i64))) × Unit)) × Unit))
def sh68_4 : ShS := ⟨[(1, .one (.ptr 0 0)), (3, .one (.int .i64))], [(0, .box [.sl (S96), .sl (.int .i64)])], 1, 0⟩
abbrev X68_4 : Type := ((Unit × Unit) × (((List (Den (S96))) × ((List (Den (.int .i64))) × Unit)) × Unit))
def shX68_4 : ShS := ⟨[(1, .one (.ptr 0 0))], [(0, .box [.sl (S96), .sl (.int .i64)])], 1, 0⟩
abbrev Y68_4 : Type := ((Bool × Unit) × Unit)
def shY68_4 : ShS := ⟨[(2, .one (.bool))], [], 0, 0⟩
abbrev V68_9 : Type := ((Unit × (Int × Unit)) × (((List (Den (S96))) × ((List (Den (.int .i64))) × Unit)) × Unit))
def sh68_9 : ShS := ⟨[(1, .one (.ptr 0 0)), (4, .one (.int .i64))], [(0, .box [.sl (S96), .sl (.int .i64)])], 1, 0⟩
abbrev X68_9 : Type := (Unit × Unit)
def shX68_9 : ShS := ⟨[], [], 0, 0⟩
abbrev Y68_9 : Type := ((Bool × Unit) × Unit)
def shY68_9 : ShS := ⟨[(2, .one (.bool))], [], 0, 0⟩
noncomputable def Γ68 (k39 : Den A39 → Bool) (g39 : Den A39 → Den R39) (k22 : Den A22 → Bool) (g22 : Den A22 → Den R22) (k95 : Den A95 → Bool) (g95 : Den A95 → Den R95) (kl4 : V68_4 → Bool) (xl4 : V68_4 → X68_4) (tl4 : V68_4 → Bool) (yl4 : V68_4 → Y68_4) (kl9 : V68_9 → Bool) (xl9 : V68_9 → X68_9) (tl9 : V68_9 → Bool) (yl9 : V68_9 → Y68_9) : Env := mkEnv tab eqs [(39, fnMean A39 R39 k39 g39), (22, fnMean A22 R22 k22 g22), (95, fnMean A95 R95 k95 g95)] 74 [.tmp 2] [] [] [(4, loopR [1, 3] [] 0 [1] [] sh68_4 shX68_4 shY68_4 kl4 tl4 xl4 yl4), (9, loopR [1, 4] [] 2 [] [] sh68_9 shX68_9 shY68_9 kl9 tl9 xl9 yl9)] [] []
noncomputable def lc68_4 : Code := (loopsOf (bodyOf Try.f68)).getD 0 .skip
noncomputable def lc68_9 : Code := (loopsOf (bodyOf Try.f68)).getD 1 .skip
def q68_9 (k39 : Den A39 → Bool) (g39 : Den A39 → Den R39) (k22 : Den A22 → Bool) (g22 : Den A22 → Den R22) (k95 : Den A95 → Bool) (g95 : Den A95 → Den R95) (f : V68_9 → Option (X68_9 ⊕ Y68_9)) (v : V68_9) : Option (X68_9 ⊕ Y68_9) :=
  bif (decide (v.fst.snd.fst < (↑(List.length v.snd.fst.snd.fst) : Int))) then
    bif (decide (0 ≤ v.fst.snd.fst) && decide (v.fst.snd.fst < (↑(List.length v.snd.fst.snd.fst) : Int))) then
      let v0 := (List.getD v.snd.fst.snd.fst (Int.toNat v.fst.snd.fst) (zero (Ty.int IntKind.i64)))
      let v1 := (k39 (v0, 0, 10000000, ()))
      bif (v1) then
        let v2 := (g39 (v0, 0, 10000000, ()))
        bif (!v2.fst) then
          some (Sum.inr (((false), ()), ()))
        else
          bif (decide (v.fst.snd.fst > 0)) then
            bif (decide (0 ≤ v.fst.snd.fst) && decide (v.fst.snd.fst < (↑(List.length v.snd.fst.snd.fst) : Int))) then
              let v3 := (IntKind.wrap IntKind.i64 (v.fst.snd.fst - 1))
              bif (decide (0 ≤ v3) && decide (v3 < (↑(List.length v.snd.fst.snd.fst) : Int))) then
                let v4 := (List.getD v.snd.fst.snd.fst (Int.toNat v3) (zero (Ty.int IntKind.i64)))
                let v5 := (IntKind.wrap IntKind.i64 (v4 + 21600))
                bif (decide (v0 < v5)) then
                  some (Sum.inr (((false), ()), ()))
                else
                  let v6 := (IntKind.wrap IntKind.i64 (v.fst.snd.fst + 1))
                  f (((), ((v6), ())), (((v.snd.fst.1), ((v.snd.fst.snd.1), ())), ()))
              else
                none
            else
              none
          else
            let v3 := (IntKind.wrap IntKind.i64 (v.fst.snd.fst + 1))
            f (((), ((v3), ())), (((v.snd.fst.1), ((v.snd.fst.snd.1), ())), ()))
      else
        none
    else
      none
  else
    some (Sum.inl ((), ()))
theorem evl68_9 (k39 : Den A39 → Bool) (g39 : Den A39 → Den R39) (k22 : Den A22 → Bool) (g22 : Den A22 → Den R22) (k95 : Den A95 → Bool) (g95 : Den A95 → Den R95) (kl4 : V68_4 → Bool) (xl4 : V68_4 → X68_4) (tl4 : V68_4 → Bool) (yl4 : V68_4 → Y68_4) (kl9 : V68_9 → Bool) (xl9 : V68_9 → X68_9) (tl9 : V68_9 → Bool) (yl9 : V68_9 → Y68_9) (f : V68_9 → Option (X68_9 ⊕ Y68_9)) (v : V68_9) : EBk (Γ68 k39 g39 k22 g22 k95 g95 kl4 xl4 tl4 yl4 kl9 xl9 tl9 yl9) lc68_9 (roundK [1, 4] [] 2 [] [] (atS sh68_9 f) (endS shX68_9 shY68_9)) (mkS sh68_9 v) = q68_9 k39 g39 k22 g22 k95 g95 f v := by kernel_rfl
def b68_9 (v : V68_9) : Nat := v.1.2.1.natAbs + v.2.1.1.length + v.2.1.2.1.length + 1000
def l68_9 (v : V68_9) : Option (X68_9 ⊕ Y68_9) := iter (q68_9 K39 G39 K22 G22 K95 G95) (b68_9 v) v
def kL68_9 (v : V68_9) : Bool := (l68_9 v).isSome
def tL68_9 (v : V68_9) : Bool := isR (l68_9 v)
def xL68_9 (v : V68_9) : X68_9 := xOf ((), ()) (l68_9 v)
def yL68_9 (v : V68_9) : Y68_9 := yOf ((false, ()), ()) (l68_9 v)
def q68_4 (k39 : Den A39 → Bool) (g39 : Den A39 → Den R39) (k22 : Den A22 → Bool) (g22 : Den A22 → Den R22) (k95 : Den A95 → Bool) (g95 : Den A95 → Den R95) (f : V68_4 → Option (X68_4 ⊕ Y68_4)) (v : V68_4) : Option (X68_4 ⊕ Y68_4) :=
  bif (decide (v.fst.snd.fst < (↑(List.length v.snd.fst.fst) : Int))) then
    bif (decide (0 ≤ v.fst.snd.fst) && decide (v.fst.snd.fst < (↑(List.length v.snd.fst.fst) : Int))) then
      let v0 := (List.getD v.snd.fst.fst (Int.toNat v.fst.snd.fst) (zero S96))
      let v1 := (k22 (v0.fst, ()))
      bif (v1) then
        let v2 := (g22 (v0.fst, ()))
        bif (!v2.fst) then
          some (Sum.inr (((false), ()), ()))
        else
          bif (decide (0 ≤ v.fst.snd.fst) && decide (v.fst.snd.fst < (↑(List.length v.snd.fst.fst) : Int))) then
            let v3 := (k95 (v0, ()))
            bif (v3) then
              let v4 := (g95 (v0, ()))
              bif (!v4.fst) then
                some (Sum.inr (((false), ()), ()))
              else
                let v5 := (IntKind.wrap IntKind.i64 (v.fst.snd.fst + 1))
                f (((), ((v5), ())), (((v.snd.fst.1), ((v.snd.fst.snd.1), ())), ()))
            else
              none
          else
            none
      else
        none
    else
      none
  else
    some (Sum.inl (((), ()), (((v.snd.fst.1), ((v.snd.fst.snd.1), ())), ())))
theorem evl68_4 (k39 : Den A39 → Bool) (g39 : Den A39 → Den R39) (k22 : Den A22 → Bool) (g22 : Den A22 → Den R22) (k95 : Den A95 → Bool) (g95 : Den A95 → Den R95) (kl4 : V68_4 → Bool) (xl4 : V68_4 → X68_4) (tl4 : V68_4 → Bool) (yl4 : V68_4 → Y68_4) (kl9 : V68_9 → Bool) (xl9 : V68_9 → X68_9) (tl9 : V68_9 → Bool) (yl9 : V68_9 → Y68_9) (f : V68_4 → Option (X68_4 ⊕ Y68_4)) (v : V68_4) : EBk (Γ68 k39 g39 k22 g22 k95 g95 kl4 xl4 tl4 yl4 kl9 xl9 tl9 yl9) lc68_4 (roundK [1, 3] [] 0 [1] [] (atS sh68_4 f) (endS shX68_4 shY68_4)) (mkS sh68_4 v) = q68_4 k39 g39 k22 g22 k95 g95 f v := by kernel_rfl
def b68_4 (v : V68_4) : Nat := v.1.2.1.natAbs + v.2.1.1.length + v.2.1.2.1.length + 1000
def l68_4 (v : V68_4) : Option (X68_4 ⊕ Y68_4) := iter (q68_4 K39 G39 K22 G22 K95 G95) (b68_4 v) v
def kL68_4 (v : V68_4) : Bool := (l68_4 v).isSome
def tL68_4 (v : V68_4) : Bool := isR (l68_4 v)
def xL68_4 (v : V68_4) : X68_4 := xOf (((), ()), (([], ([], ())), ())) (l68_4 v)
def yL68_4 (v : V68_4) : Y68_4 := yOf ((false, ()), ()) (l68_4 v)
def r68 (k39 : Den A39 → Bool) (g39 : Den A39 → Den R39) (k22 : Den A22 → Bool) (g22 : Den A22 → Den R22) (k95 : Den A95 → Bool) (g95 : Den A95 → Den R95) (kl4 : V68_4 → Bool) (xl4 : V68_4 → X68_4) (tl4 : V68_4 → Bool) (yl4 : V68_4 → Y68_4) (kl9 : V68_9 → Bool) (xl9 : V68_9 → X68_9) (tl9 : V68_9 → Bool) (yl9 : V68_9 → Y68_9) (x : Den A68) : Option (Den R68) :=
  let v0 := (k39 ((↑(List.length x.fst.fst) : Int), 1, 20, ()))
  bif (v0) then
    let v1 := (g39 ((↑(List.length x.fst.fst) : Int), 1, 20, ()))
    bif (!v1.fst) then
      some ((false), ())
    else
      let v2 := (k39 ((↑(List.length x.fst.snd.fst) : Int), 1, 60, ()))
      bif (v2) then
        let v3 := (g39 ((↑(List.length x.fst.snd.fst) : Int), 1, 60, ()))
        bif (!v3.fst) then
          some ((false), ())
        else
          let v4 := (kl4 (((), 0, ()), x))
          bif (v4) then
            let v5 := (tl4 (((), 0, ()), x))
            bif (v5) then
              let v6 := (yl4 (((), 0, ()), x))
              some ((v6.fst.1), ())
            else
              let v6 := (xl4 (((), 0, ()), x))
              let v7 := (kl9 (((), 0, ()), v6.snd))
              bif (v7) then
                let v8 := (tl9 (((), 0, ()), v6.snd))
                bif (v8) then
                  let v9 := (yl9 (((), 0, ()), v6.snd))
                  some ((v9.fst.1), ())
                else
                  some ((true), ())
              else
                none
          else
            none
      else
        none
  else
    none
theorem ev68 (k39 : Den A39 → Bool) (g39 : Den A39 → Den R39) (k22 : Den A22 → Bool) (g22 : Den A22 → Den R22) (k95 : Den A95 → Bool) (g95 : Den A95 → Den R95) (kl4 : V68_4 → Bool) (xl4 : V68_4 → X68_4) (tl4 : V68_4 → Bool) (yl4 : V68_4 → Y68_4) (kl9 : V68_9 → Bool) (xl9 : V68_9 → X68_9) (tl9 : V68_9 → Bool) (yl9 : V68_9 → Y68_9) (x : Den A68) : callK (Γ68 k39 g39 k22 g22 k95 g95 kl4 xl4 tl4 yl4 kl9 xl9 tl9 yl9) (bodyOf Try.f68) (decR R68) (encA A68 x) [] = r68 k39 g39 k22 g22 k95 g95 kl4 xl4 tl4 yl4 kl9 xl9 tl9 yl9 x := by kernel_rfl
def F68 (x : Den A68) : Option (Den R68) := r68 K39 G39 K22 G22 K95 G95 kL68_4 xL68_4 tL68_4 yL68_4 kL68_9 xL68_9 tL68_9 yL68_9 x
def K68 (x : Den A68) : Bool := (F68 x).isSome
def G68 (x : Den A68) : Den R68 := (F68 x).getD (zero R68)
theorem env68 : EnvOK Try.prog (Γ68 K39 G39 K22 G22 K95 G95 kL68_4 xL68_4 tL68_4 yL68_4 kL68_9 xL68_9 tL68_9 yL68_9) := env_ok mixed tab_ok eqs_ok (.cons sem39 (.cons sem22 (.cons sem95 .nil)))
theorem is68 : FnIs Try.prog 68 (Γ68 K39 G39 K22 G22 K95 G95 kL68_4 xL68_4 tL68_4 yL68_4 kL68_9 xL68_9 tL68_9 yL68_9) (bodyOf Try.f68) := fnIs Try.func68 rfl rfl rfl (by kernel_rfl) (loops_ok (l := [lc68_4, lc68_9]) (by kernel_rfl) (.cons (one_loop rfl (loopR_sound (sh := sh68_4) (shX := shX68_4) (shR := shY68_4) (fun f v => evl68_4 K39 G39 K22 G22 K95 G95 kL68_4 xL68_4 tL68_4 yL68_4 kL68_9 xL68_9 tL68_9 yL68_9 f v) b68_4 (((), ()), (([], ([], ())), ())) ((false, ()), ()))) (.cons (one_loop rfl (loopR_sound (sh := sh68_9) (shX := shX68_9) (shR := shY68_9) (fun f v => evl68_9 K39 G39 K22 G22 K95 G95 kL68_4 xL68_4 tL68_4 yL68_4 kL68_9 xL68_9 tL68_9 yL68_9 f v) b68_9 ((), ()) ((false, ()), ()))) (.nil))))
theorem sem68 : SemOK Try.prog (68, fnMean A68 R68 K68 G68) := fn_opt env68 is68 fun x => ev68 K39 G39 K22 G22 K95 G95 kL68_4 xL68_4 tL68_4 yL68_4 kL68_9 xL68_9 tL68_9 yL68_9 x

/- "loop.example/g03321/spec.Dot" -/
abbrev A81 : Ty := .cons (.cpx .f64) (.cons (.cpx .f64) (.nil))
abbrev R81 : Ty := .cons (.flt .f64) (.nil)
noncomputable def Γ81 : Env := mkEnv tab eqs [] 16 [.tmp 4] [] [] [] [] []
def r81 (x : Den A81) : Option (Den R81) :=
  let v0 := (farith BinOp.mul FloatKind.f64 x.fst.fst x.snd.fst.fst)
  let v1 := (farith BinOp.mul FloatKind.f64 x.fst.snd x.snd.fst.snd)
  let v2 := (farith BinOp.add FloatKind.f64 v0 v1)
  some ((v2), ())
theorem ev81 (x : Den A81) : callK (Γ81) (bodyOf Try.f81) (decR R81) (encA A81 x) [] = r81 x := by kernel_rfl
def F81 (x : Den A81) : Option (Den R81) := r81 x
def K81 (x : Den A81) : Bool := (F81 x).isSome
def G81 (x : Den A81) : Den R81 := (F81 x).getD (zero R81)
theorem env81 : EnvOK Try.prog (Γ81) := env_ok mixed tab_ok eqs_ok .nil
theorem is81 : FnIs Try.prog 81 (Γ81) (bodyOf Try.f81) := fnIs Try.func81 rfl rfl rfl (by kernel_rfl) (noLoops (by kernel_rfl))
theorem sem81 : SemOK Try.prog (81, fnMean A81 R81 K81 G81) := fn_opt env81 is81 fun x => ev81 x

/- "loop.example/g03321/spec.NearStation" -/
abbrev A96 : Ty := .cons (S48) (.cons (.cpx .f64) (.nil))
abbrev R96 : Ty := .cons (.int .i64) (.nil)
abbrev V96_6 : Type := (((Nat × Nat) × (Unit × (Int × (Nat × (Int × Unit))))) × (((List (Den (S96))) × ((List (Den (.int .i64))) × Unit)) × Unit))
def sh96_6 : ShS := ⟨[(1, .one (.cpx .f64)), (2, .one (.ptr 0 0)), (5, .one (.int .i64)), (6, .one (.flt .f64)), (7, .one (.int .i64))], [(0, .box [.sl (S96), .sl (.int .i64)])], 1, 0⟩
abbrev X96_6 : Type := ((Int × Unit) × Unit)
def shX96_6 : ShS := ⟨[(5, .one (.int .i64))], [], 0, 0⟩
noncomputable def Γ96 (k68 : Den A68 → Bool) (g68 : Den A68 → Den R68) (k22 : Den A22 → Bool) (g22 : Den A22 → Den R22) (k81 : Den A81 → Bool) (g81 : Den A81 → Den R81) (kl6 : V96_6 → Bool) (xl6 : V96_6 → X96_6) : Env := mkEnv tab eqs [(68, fnMean A68 R68 k68 g68), (22, fnMean A22 R22 k22 g22), (81, fnMean A81 R81 k81 g81)] 46 [.tmp 4] [] [] [(6, loopX [1, 2, 5, 6, 7] [] 0 [5] [] sh96_6 shX96_6 kl6 xl6)] [] []
noncomputable def lc96_6 : Code := (loopsOf (bodyOf Try.f96)).getD 0 .skip
def q96_6 (k68 : Den A68 → Bool) (g68 : Den A68 → Den R68) (k22 : Den A22 → Bool) (g22 : Den A22 → Den R22) (k81 : Den A81 → Bool) (g81 : Den A81 → Den R81) (f : V96_6 → Option (X96_6)) (v : V96_6) : Option (X96_6) :=
  bif (decide (v.fst.snd.snd.snd.snd.fst < (↑(List.length v.snd.fst.fst) : Int))) then
    bif (decide (0 ≤ v.fst.snd.snd.snd.snd.fst) && decide (v.fst.snd.snd.snd.snd.fst < (↑(List.length v.snd.fst.fst) : Int))) then
      let v0 := (List.getD v.snd.fst.fst (Int.toNat v.fst.snd.snd.snd.snd.fst) (zero S96))
      let v1 := (farith BinOp.sub FloatKind.f64 v0.fst.fst v.fst.fst.fst)
      let v2 := (farith BinOp.sub FloatKind.f64 v0.fst.snd v.fst.fst.snd)
      let v3 := (k81 ((v1, v2), (v1, v2), ()))
      bif (v3) then
        bif (decide (v.fst.snd.snd.fst < 0)) then
          let v4 := (g81 ((v1, v2), (v1, v2), ()))
          let v5 := (IntKind.wrap IntKind.i64 (v.fst.snd.snd.snd.snd.fst + 1))
          f ((((v.fst.fst.1), (v.fst.fst.2)), ((), ((v.fst.snd.snd.snd.snd.1), ((v4.1), ((v5), ()))))), (((v.snd.fst.1), ((v.snd.fst.snd.1), ())), ()))
        else
          let v4 := (g81 ((v1, v2), (v1, v2), ()))
          bif (flt FloatKind.f64 v4.fst v.fst.snd.snd.snd.fst) then
            let v5 := (IntKind.wrap IntKind.i64 (v.fst.snd.snd.snd.snd.fst + 1))
            f ((((v.fst.fst.1), (v.fst.fst.2)), ((), ((v.fst.snd.snd.snd.snd.1), ((v4.1), ((v5), ()))))), (((v.snd.fst.1), ((v.snd.fst.snd.1), ())), ()))
          else
            let v5 := (IntKind.wrap IntKind.i64 (v.fst.snd.snd.snd.snd.fst + 1))
            f ((((v.fst.fst.1), (v.fst.fst.2)), ((), ((v.fst.snd.snd.1), ((v.fst.snd.snd.snd.1), ((v5), ()))))), (((v.snd.fst.1), ((v.snd.fst.snd.1), ())), ()))
      else
        none
    else
      none
  else
    some (((v.fst.snd.snd.1), ()), ())
theorem evl96_6 (k68 : Den A68 → Bool) (g68 : Den A68 → Den R68) (k22 : Den A22 → Bool) (g22 : Den A22 → Den R22) (k81 : Den A81 → Bool) (g81 : Den A81 → Den R81) (kl6 : V96_6 → Bool) (xl6 : V96_6 → X96_6) (f : V96_6 → Option (X96_6)) (v : V96_6) : EBk (Γ96 k68 g68 k22 g22 k81 g81 kl6 xl6) lc96_6 (roundK [1, 2, 5, 6, 7] [] 0 [5] [] (atS sh96_6 f) (endX shX96_6)) (mkS sh96_6 v) = q96_6 k68 g68 k22 g22 k81 g81 f v := by kernel_rfl
def b96_6 (v : V96_6) : Nat := v.1.2.2.1.natAbs + v.1.2.2.2.2.1.natAbs + v.2.1.1.length + v.2.1.2.1.length + 1000
def l96_6 (v : V96_6) : Option (X96_6) := iter (q96_6 K68 G68 K22 G22 K81 G81) (b96_6 v) v
def kL96_6 (v : V96_6) : Bool := (l96_6 v).isSome
def xL96_6 (v : V96_6) : X96_6 := (l96_6 v).getD ((0, ()), ())
def r96 (k68 : Den A68 → Bool) (g68 : Den A68 → Den R68) (k22 : Den A22 → Bool) (g22 : Den A22 → Den R22) (k81 : Den A81 → Bool) (g81 : Den A81 → Den R81) (kl6 : V96_6 → Bool) (xl6 : V96_6 → X96_6) (x : Den A96) : Option (Den R96) :=
  let v0 := (k68 (x.fst, ()))
  bif (v0) then
    let v1 := (g68 (x.fst, ()))
    bif (!v1.fst) then
      some ((-1), ())
    else
      let v2 := (k22 x.snd)
      bif (v2) then
        let v3 := (g22 x.snd)
        bif (!v3.fst) then
          some ((-1), ())
        else
          let v4 := (kl6 ((x.snd.fst, (), -1, 0, 0, ()), x.fst, ()))
          bif (v4) then
            let v5 := (xl6 ((x.snd.fst, (), -1, 0, 0, ()), x.fst, ()))
            some ((v5.fst.1), ())
          else
            none
      else
        none
  else
    none
theorem ev96 (k68 : Den A68 → Bool) (g68 : Den A68 → Den R68) (k22 : Den A22 → Bool) (g22 : Den A22 → Den R22) (k81 : Den A81 → Bool) (g81 : Den A81 → Den R81) (kl6 : V96_6 → Bool) (xl6 : V96_6 → X96_6) (x : Den A96) : callK (Γ96 k68 g68 k22 g22 k81 g81 kl6 xl6) (bodyOf Try.f96) (decR R96) (encA A96 x) [] = r96 k68 g68 k22 g22 k81 g81 kl6 xl6 x := by kernel_rfl
def F96 (x : Den A96) : Option (Den R96) := r96 K68 G68 K22 G22 K81 G81 kL96_6 xL96_6 x
def K96 (x : Den A96) : Bool := (F96 x).isSome
def G96 (x : Den A96) : Den R96 := (F96 x).getD (zero R96)
theorem env96 : EnvOK Try.prog (Γ96 K68 G68 K22 G22 K81 G81 kL96_6 xL96_6) := env_ok mixed tab_ok eqs_ok (.cons sem68 (.cons sem22 (.cons sem81 .nil)))
theorem is96 : FnIs Try.prog 96 (Γ96 K68 G68 K22 G22 K81 G81 kL96_6 xL96_6) (bodyOf Try.f96) := fnIs Try.func96 rfl rfl rfl (by kernel_rfl) (loops_ok (l := [lc96_6]) (by kernel_rfl) (.cons (one_loop rfl (loopX_sound (sh := sh96_6) (shX := shX96_6) (fun f v => evl96_6 K68 G68 K22 G22 K81 G81 kL96_6 xL96_6 f v) b96_6 ((0, ()), ()))) (.nil)))
theorem sem96 : SemOK Try.prog (96, fnMean A96 R96 K96 G96) := fn_opt env96 is96 fun x => ev96 K68 G68 K22 G22 K81 G81 kL96_6 xL96_6 x

/- "loop.example/g03321/spec.l05Far" -/
abbrev A112 : Ty := .cons (.int .i64) (.cons (.int .i64) (.nil))
abbrev R112 : Ty := .cons (.int .i64) (.nil)
noncomputable def Γ112 : Env := mkEnv tab eqs [] 14 [.tmp 4] [] [] [] [] []
def r112 (x : Den A112) : Option (Den R112) :=
  bif (decide (x.fst > x.snd.fst)) then
    let v0 := (IntKind.wrap IntKind.i64 (x.fst - x.snd.fst))
    some ((v0), ())
  else
    let v0 := (IntKind.wrap IntKind.i64 (x.snd.fst - x.fst))
    some ((v0), ())
theorem ev112 (x : Den A112) : callK (Γ112) (bodyOf Try.f112) (decR R112) (encA A112 x) [] = r112 x := by kernel_rfl
def F112 (x : Den A112) : Option (Den R112) := r112 x
def K112 (x : Den A112) : Bool := (F112 x).isSome
def G112 (x : Den A112) : Den R112 := (F112 x).getD (zero R112)
theorem env112 : EnvOK Try.prog (Γ112) := env_ok mixed tab_ok eqs_ok .nil
theorem is112 : FnIs Try.prog 112 (Γ112) (bodyOf Try.f112) := fnIs Try.func112 rfl rfl rfl (by kernel_rfl) (noLoops (by kernel_rfl))
theorem sem112 : SemOK Try.prog (112, fnMean A112 R112 K112 G112) := fn_opt env112 is112 fun x => ev112 x

/- "loop.example/g03321/spec.HighAt" -/
abbrev A97 : Ty := .cons (S48) (.cons (.int .i64) (.nil))
abbrev R97 : Ty := .cons (.int .i64) (.nil)
abbrev V97_5 : Type := ((Int × (Unit × (Int × (Int × Unit)))) × (((List (Den (S96))) × ((List (Den (.int .i64))) × Unit)) × Unit))
def sh97_5 : ShS := ⟨[(1, .one (.int .i64)), (2, .one (.ptr 0 0)), (5, .one (.int .i64)), (6, .one (.int .i64))], [(0, .box [.sl (S96), .sl (.int .i64)])], 1, 0⟩
abbrev X97_5 : Type := ((Int × Unit) × Unit)
def shX97_5 : ShS := ⟨[(5, .one (.int .i64))], [], 0, 0⟩
noncomputable def Γ97 (k68 : Den A68 → Bool) (g68 : Den A68 → Den R68) (k39 : Den A39 → Bool) (g39 : Den A39 → Den R39) (k112 : Den A112 → Bool) (g112 : Den A112 → Den R112) (kl5 : V97_5 → Bool) (xl5 : V97_5 → X97_5) : Env := mkEnv tab eqs [(68, fnMean A68 R68 k68 g68), (39, fnMean A39 R39 k39 g39), (112, fnMean A112 R112 k112 g112)] 39 [.tmp 4] [] [] [(5, loopX [1, 2, 5, 6] [] 0 [5] [] sh97_5 shX97_5 kl5 xl5)] [] []
noncomputable def lc97_5 : Code := (loopsOf (bodyOf Try.f97)).getD 0 .skip
def q97_5 (k68 : Den A68 → Bool) (g68 : Den A68 → Den R68) (k39 : Den A39 → Bool) (g39 : Den A39 → Den R39) (k112 : Den A112 → Bool) (g112 : Den A112 → Den R112) (f : V97_5 → Option (X97_5)) (v : V97_5) : Option (X97_5) :=
  bif (decide (v.fst.snd.snd.snd.fst < (↑(List.length v.snd.fst.snd.fst) : Int))) then
    bif (decide (0 ≤ v.fst.snd.snd.snd.fst) && decide (v.fst.snd.snd.snd.fst < (↑(List.length v.snd.fst.snd.fst) : Int))) then
      let v0 := (List.getD v.snd.fst.snd.fst (Int.toNat v.fst.snd.snd.snd.fst) (zero (Ty.int IntKind.i64)))
      let v1 := (k112 (v0, v.fst.fst, ()))
      bif (v1) then
        bif (decide (0 ≤ v.fst.snd.snd.fst) && decide (v.fst.snd.snd.fst < (↑(List.length v.snd.fst.snd.fst) : Int))) then
          let v2 := (List.getD v.snd.fst.snd.fst (Int.toNat v.fst.snd.snd.fst) (zero (Ty.int IntKind.i64)))
          let v3 := (k112 (v2, v.fst.fst, ()))
          bif (v3) then
            let v4 := (g112 (v0, v.fst.fst, ()))
            let v5 := (g112 (v2, v.fst.fst, ()))
            bif (decide (v4.fst < v5.fst)) then
              let v6 := (IntKind.wrap IntKind.i64 (v.fst.snd.snd.snd.fst + 1))
              f (((v.fst.1), ((), ((v.fst.snd.snd.snd.1), ((v6), ())))), (((v.snd.fst.1), ((v.snd.fst.snd.1), ())), ()))
            else
              let v6 := (IntKind.wrap IntKind.i64 (v.fst.snd.snd.snd.fst + 1))
              f (((v.fst.1), ((), ((v.fst.snd.snd.1), ((v6), ())))), (((v.snd.fst.1), ((v.snd.fst.snd.1), ())), ()))
          else
            none
        else
          none
      else
        none
    else
      none
  else
    some (((v.fst.snd.snd.1), ()), ())
theorem evl97_5 (k68 : Den A68 → Bool) (g68 : Den A68 → Den R68) (k39 : Den A39 → Bool) (g39 : Den A39 → Den R39) (k112 : Den A112 → Bool) (g112 : Den A112 → Den R112) (kl5 : V97_5 → Bool) (xl5 : V97_5 → X97_5) (f : V97_5 → Option (X97_5)) (v : V97_5) : EBk (Γ97 k68 g68 k39 g39 k112 g112 kl5 xl5) lc97_5 (roundK [1, 2, 5, 6] [] 0 [5] [] (atS sh97_5 f) (endX shX97_5)) (mkS sh97_5 v) = q97_5 k68 g68 k39 g39 k112 g112 f v := by kernel_rfl
def b97_5 (v : V97_5) : Nat := v.1.1.natAbs + v.1.2.2.1.natAbs + v.1.2.2.2.1.natAbs + v.2.1.1.length + v.2.1.2.1.length + 1000
def l97_5 (v : V97_5) : Option (X97_5) := iter (q97_5 K68 G68 K39 G39 K112 G112) (b97_5 v) v
def kL97_5 (v : V97_5) : Bool := (l97_5 v).isSome
def xL97_5 (v : V97_5) : X97_5 := (l97_5 v).getD ((0, ()), ())
def r97 (k68 : Den A68 → Bool) (g68 : Den A68 → Den R68) (k39 : Den A39 → Bool) (g39 : Den A39 → Den R39) (k112 : Den A112 → Bool) (g112 : Den A112 → Den R112) (kl5 : V97_5 → Bool) (xl5 : V97_5 → X97_5) (x : Den A97) : Option (Den R97) :=
  let v0 := (k68 (x.fst, ()))
  bif (v0) then
    let v1 := (g68 (x.fst, ()))
    bif (!v1.fst) then
      some ((-1), ())
    else
      let v2 := (k39 (x.snd.fst, 0, 10000000, ()))
      bif (v2) then
        let v3 := (g39 (x.snd.fst, 0, 10000000, ()))
        bif (!v3.fst) then
          some ((-1), ())
        else
          let v4 := (kl5 ((x.snd.fst, (), 0, 1, ()), x.fst, ()))
          bif (v4) then
            let v5 := (xl5 ((x.snd.fst, (), 0, 1, ()), x.fst, ()))
            some ((v5.fst.1), ())
          else
            none
      else
        none
  else
    none
theorem ev97 (k68 : Den A68 → Bool) (g68 : Den A68 → Den R68) (k39 : Den A39 → Bool) (g39 : Den A39 → Den R39) (k112 : Den A112 → Bool) (g112 : Den A112 → Den R112) (kl5 : V97_5 → Bool) (xl5 : V97_5 → X97_5) (x : Den A97) : callK (Γ97 k68 g68 k39 g39 k112 g112 kl5 xl5) (bodyOf Try.f97) (decR R97) (encA A97 x) [] = r97 k68 g68 k39 g39 k112 g112 kl5 xl5 x := by kernel_rfl
def F97 (x : Den A97) : Option (Den R97) := r97 K68 G68 K39 G39 K112 G112 kL97_5 xL97_5 x
def K97 (x : Den A97) : Bool := (F97 x).isSome
def G97 (x : Den A97) : Den R97 := (F97 x).getD (zero R97)
theorem env97 : EnvOK Try.prog (Γ97 K68 G68 K39 G39 K112 G112 kL97_5 xL97_5) := env_ok mixed tab_ok eqs_ok (.cons sem68 (.cons sem39 (.cons sem112 .nil)))
theorem is97 : FnIs Try.prog 97 (Γ97 K68 G68 K39 G39 K112 G112 kL97_5 xL97_5) (bodyOf Try.f97) := fnIs Try.func97 rfl rfl rfl (by kernel_rfl) (loops_ok (l := [lc97_5]) (by kernel_rfl) (.cons (one_loop rfl (loopX_sound (sh := sh97_5) (shX := shX97_5) (fun f v => evl97_5 K68 G68 K39 G39 K112 G112 kL97_5 xL97_5 f v) b97_5 ((0, ()), ()))) (.nil)))
theorem sem97 : SemOK Try.prog (97, fnMean A97 R97 K97 G97) := fn_opt env97 is97 fun x => ev97 K68 G68 K39 G39 K112 G112 kL97_5 xL97_5 x

/- "loop.example/g03321/spec.Clamp" -/
abbrev A113 : Ty := .cons (.int .i64) (.cons (.int .i64) (.cons (.int .i64) (.nil)))
abbrev R113 : Ty := .cons (.int .i64) (.nil)
noncomputable def Γ113 : Env := mkEnv tab eqs [] 21 [.tmp 6] [] [] [] [] []
def r113 (x : Den A113) : Option (Den R113) :=
  bif (decide (x.snd.snd.fst < x.snd.fst)) then
    some ((x.snd.1), ())
  else
    bif (decide (x.fst < x.snd.fst)) then
      some ((x.snd.1), ())
    else
      bif (decide (x.fst > x.snd.snd.fst)) then
        some ((x.snd.snd.1), ())
      else
        some ((x.1), ())
theorem ev113 (x : Den A113) : callK (Γ113) (bodyOf Try.f113) (decR R113) (encA A113 x) [] = r113 x := by kernel_rfl
def F113 (x : Den A113) : Option (Den R113) := r113 x
def K113 (x : Den A113) : Bool := (F113 x).isSome
def G113 (x : Den A113) : Den R113 := (F113 x).getD (zero R113)
theorem env113 : EnvOK Try.prog (Γ113) := env_ok mixed tab_ok eqs_ok .nil
theorem is113 : FnIs Try.prog 113 (Γ113) (bodyOf Try.f113) := fnIs Try.func113 rfl rfl rfl (by kernel_rfl) (noLoops (by kernel_rfl))
theorem sem113 : SemOK Try.prog (113, fnMean A113 R113 K113 G113) := fn_opt env113 is113 fun x => ev113 x

/- "loop.example/g03321/spec.l04Mix" -/
abbrev A114 : Ty := .cons (.flt .f32) (.cons (.flt .f32) (.cons (.flt .f32) (.nil)))
abbrev R114 : Ty := .cons (.flt .f32) (.nil)
noncomputable def Γ114 : Env := mkEnv tab eqs [] 16 [.tmp 6] [] [] [] [] []
def r114 (x : Den A114) : Option (Den R114) :=
  let v0 := (farith BinOp.sub FloatKind.f32 x.snd.fst x.fst)
  let v1 := (farith BinOp.mul FloatKind.f32 v0 x.snd.snd.fst)
  let v2 := (farith BinOp.add FloatKind.f32 x.fst v1)
  some ((v2), ())
theorem ev114 (x : Den A114) : callK (Γ114) (bodyOf Try.f114) (decR R114) (encA A114 x) [] = r114 x := by kernel_rfl
def F114 (x : Den A114) : Option (Den R114) := r114 x
def K114 (x : Den A114) : Bool := (F114 x).isSome
def G114 (x : Den A114) : Den R114 := (F114 x).getD (zero R114)
theorem env114 : EnvOK Try.prog (Γ114) := env_ok mixed tab_ok eqs_ok .nil
theorem is114 : FnIs Try.prog 114 (Γ114) (bodyOf Try.f114) := fnIs Try.func114 rfl rfl rfl (by kernel_rfl) (noLoops (by kernel_rfl))
theorem sem114 : SemOK Try.prog (114, fnMean A114 R114 K114 G114) := fn_opt env114 is114 fun x => ev114 x

/- "loop.example/g03321/spec.FlowAt" -/
abbrev A98 : Ty := .cons (S96) (.cons (.int .i64) (.nil))
abbrev R98 : Ty := .cons (.cpx .f32) (.cons (.bool) (.nil))
noncomputable def Γ98 (k95 : Den A95 → Bool) (g95 : Den A95 → Den R95) (k113 : Den A113 → Bool) (g113 : Den A113 → Den R113) (k114 : Den A114 → Bool) (g114 : Den A114 → Den R114) : Env := mkEnv tab eqs [(95, fnMean A95 R95 k95 g95), (113, fnMean A113 R113 k113 g113), (114, fnMean A114 R114 k114 g114)] 53 [.tmp 4, .tmp 5] [] [] [] [] []
def r98 (k95 : Den A95 → Bool) (g95 : Den A95 → Den R95) (k113 : Den A113 → Bool) (g113 : Den A113 → Den R113) (k114 : Den A114 → Bool) (g114 : Den A114 → Den R114) (x : Den A98) : Option (Den R98) :=
  let v0 := (k95 (x.fst, ()))
  bif (v0) then
    let v1 := (g95 (x.fst, ()))
    bif (!v1.fst) then
      some (((0), (0)), ((false), ()))
    else
      let v2 := (k113 (x.snd.fst, -21600, 21600, ()))
      bif (v2) then
        let v3 := (g113 (x.snd.fst, -21600, 21600, ()))
        let v4 := (IntKind.wrap IntKind.i64 (v3.fst + 21600))
        bif (Int.tmod v4 3600 == 0) then
          let v5 := (IntKind.wrap IntKind.i64 (Int.tdiv v4 3600))
          bif (decide (0 ≤ v5) && decide (v5 < (↑13 : Int))) then
            let v6 := (List.getD [x.fst.snd.fst.fst, x.fst.snd.fst.snd.fst, x.fst.snd.fst.snd.snd.fst, x.fst.snd.fst.snd.snd.snd.fst, x.fst.snd.fst.snd.snd.snd.snd.fst, x.fst.snd.fst.snd.snd.snd.snd.snd.fst, x.fst.snd.fst.snd.snd.snd.snd.snd.snd.fst, x.fst.snd.fst.snd.snd.snd.snd.snd.snd.snd.fst, x.fst.snd.fst.snd.snd.snd.snd.snd.snd.snd.snd.fst, x.fst.snd.fst.snd.snd.snd.snd.snd.snd.snd.snd.snd.fst, x.fst.snd.fst.snd.snd.snd.snd.snd.snd.snd.snd.snd.snd.fst, x.fst.snd.fst.snd.snd.snd.snd.snd.snd.snd.snd.snd.snd.snd.fst, x.fst.snd.fst.snd.snd.snd.snd.snd.snd.snd.snd.snd.snd.snd.snd.fst] (Int.toNat v5) (0, 0))
            some (((v6.1), (v6.2)), ((true), ()))
          else
            none
        else
          let v5 := (IntKind.wrap IntKind.i64 (Int.tdiv v4 3600))
          bif (decide (0 ≤ v5) && decide (v5 < (↑13 : Int))) then
            let v6 := (IntKind.wrap IntKind.i64 (v5 + 1))
            bif (decide (0 ≤ v6) && decide (v6 < (↑13 : Int))) then
              let v7 := (List.getD [x.fst.snd.fst.fst, x.fst.snd.fst.snd.fst, x.fst.snd.fst.snd.snd.fst, x.fst.snd.fst.snd.snd.snd.fst, x.fst.snd.fst.snd.snd.snd.snd.fst, x.fst.snd.fst.snd.snd.snd.snd.snd.fst, x.fst.snd.fst.snd.snd.snd.snd.snd.snd.fst, x.fst.snd.fst.snd.snd.snd.snd.snd.snd.snd.fst, x.fst.snd.fst.snd.snd.snd.snd.snd.snd.snd.snd.fst, x.fst.snd.fst.snd.snd.snd.snd.snd.snd.snd.snd.snd.fst, x.fst.snd.fst.snd.snd.snd.snd.snd.snd.snd.snd.snd.snd.fst, x.fst.snd.fst.snd.snd.snd.snd.snd.snd.snd.snd.snd.snd.snd.fst, x.fst.snd.fst.snd.snd.snd.snd.snd.snd.snd.snd.snd.snd.snd.snd.fst] (Int.toNat v5) (0, 0))
              let v8 := (List.getD [x.fst.snd.fst.fst, x.fst.snd.fst.snd.fst, x.fst.snd.fst.snd.snd.fst, x.fst.snd.fst.snd.snd.snd.fst, x.fst.snd.fst.snd.snd.snd.snd.fst, x.fst.snd.fst.snd.snd.snd.snd.snd.fst, x.fst.snd.fst.snd.snd.snd.snd.snd.snd.fst, x.fst.snd.fst.snd.snd.snd.snd.snd.snd.snd.fst, x.fst.snd.fst.snd.snd.snd.snd.snd.snd.snd.snd.fst, x.fst.snd.fst.snd.snd.snd.snd.snd.snd.snd.snd.snd.fst, x.fst.snd.fst.snd.snd.snd.snd.snd.snd.snd.snd.snd.snd.fst, x.fst.snd.fst.snd.snd.snd.snd.snd.snd.snd.snd.snd.snd.snd.fst, x.fst.snd.fst.snd.snd.snd.snd.snd.snd.snd.snd.snd.snd.snd.snd.fst] (Int.toNat v6) (0, 0))
              let v9 := (farith BinOp.quo FloatKind.f32 (FloatKind.nearest FloatKind.f32 (Int.tmod v4 3600)) 1163984896)
              let v10 := (k114 (v7.fst, v8.fst, v9, ()))
              bif (v10) then
                let v11 := (k114 (v7.snd, v8.snd, v9, ()))
                bif (v11) then
                  let v12 := (g114 (v7.fst, v8.fst, v9, ()))
                  let v13 := (g114 (v7.snd, v8.snd, v9, ()))
                  some (((v12.1), (v13.1)), ((true), ()))
                else
                  none
              else
                none
            else
              none
          else
            none
      else
        none
  else
    none
theorem ev98 (k95 : Den A95 → Bool) (g95 : Den A95 → Den R95) (k113 : Den A113 → Bool) (g113 : Den A113 → Den R113) (k114 : Den A114 → Bool) (g114 : Den A114 → Den R114) (x : Den A98) : callK (Γ98 k95 g95 k113 g113 k114 g114) (bodyOf Try.f98) (decR R98) (encA A98 x) [] = r98 k95 g95 k113 g113 k114 g114 x := by kernel_rfl
def F98 (x : Den A98) : Option (Den R98) := r98 K95 G95 K113 G113 K114 G114 x
def K98 (x : Den A98) : Bool := (F98 x).isSome
def G98 (x : Den A98) : Den R98 := (F98 x).getD (zero R98)
theorem env98 : EnvOK Try.prog (Γ98 K95 G95 K113 G113 K114 G114) := env_ok mixed tab_ok eqs_ok (.cons sem95 (.cons sem113 (.cons sem114 .nil)))
theorem is98 : FnIs Try.prog 98 (Γ98 K95 G95 K113 G113 K114 G114) (bodyOf Try.f98) := fnIs Try.func98 rfl rfl rfl (by kernel_rfl) (noLoops (by kernel_rfl))
theorem sem98 : SemOK Try.prog (98, fnMean A98 R98 K98 G98) := fn_opt env98 is98 fun x => ev98 K95 G95 K113 G113 K114 G114 x

/- "loop.example/g03321/spec.StreamAt" -/
abbrev A69 : Ty := .cons (S48) (.cons (.cpx .f64) (.cons (.int .i64) (.nil)))
abbrev R69 : Ty := .cons (.cpx .f32) (.cons (.bool) (.nil))
noncomputable def Γ69 (k96 : Den A96 → Bool) (g96 : Den A96 → Den R96) (k97 : Den A97 → Bool) (g97 : Den A97 → Den R97) (k98 : Den A98 → Bool) (g98 : Den A98 → Den R98) : Env := mkEnv tab eqs [(96, fnMean A96 R96 k96 g96), (97, fnMean A97 R97 k97 g97), (98, fnMean A98 R98 k98 g98)] 42 [.tmp 6, .tmp 7] [] [] [] [] []
def r69 (k96 : Den A96 → Bool) (g96 : Den A96 → Den R96) (k97 : Den A97 → Bool) (g97 : Den A97 → Den R97) (k98 : Den A98 → Bool) (g98 : Den A98 → Den R98) (x : Den A69) : Option (Den R69) :=
  let v0 := (k96 (x.fst, x.snd.fst, ()))
  bif (v0) then
    let v1 := (k97 (x.fst, x.snd.snd))
    bif (v1) then
      let v2 := (g96 (x.fst, x.snd.fst, ()))
      bif (decide (v2.fst < 0)) then
        some (((0), (0)), ((false), ()))
      else
        let v3 := (g97 (x.fst, x.snd.snd))
        bif (decide (v3.fst < 0)) then
          some (((0), (0)), ((false), ()))
        else
          bif (decide (0 ≤ v2.fst) && decide (v2.fst < (↑(List.length x.fst.fst) : Int))) then
            bif (decide (0 ≤ v3.fst) && decide (v3.fst < (↑(List.length x.fst.snd.fst) : Int))) then
              let v4 := (List.getD x.fst.fst (Int.toNat v2.fst) (zero S96))
              let v5 := (List.getD x.fst.snd.fst (Int.toNat v3.fst) (zero (Ty.int IntKind.i64)))
              let v6 := (IntKind.wrap IntKind.i64 (x.snd.snd.fst - v5))
              let v7 := (k98 (v4, v6, ()))
              bif (v7) then
                let v8 := (g98 (v4, v6, ()))
                some (((v8.fst.1), (v8.fst.2)), ((v8.snd.1), ()))
              else
                none
            else
              none
          else
            none
    else
      none
  else
    none
theorem ev69 (k96 : Den A96 → Bool) (g96 : Den A96 → Den R96) (k97 : Den A97 → Bool) (g97 : Den A97 → Den R97) (k98 : Den A98 → Bool) (g98 : Den A98 → Den R98) (x : Den A69) : callK (Γ69 k96 g96 k97 g97 k98 g98) (bodyOf Try.f69) (decR R69) (encA A69 x) [] = r69 k96 g96 k97 g97 k98 g98 x := by kernel_rfl
def F69 (x : Den A69) : Option (Den R69) := r69 K96 G96 K97 G97 K98 G98 x
def K69 (x : Den A69) : Bool := (F69 x).isSome
def G69 (x : Den A69) : Den R69 := (F69 x).getD (zero R69)
theorem env69 : EnvOK Try.prog (Γ69 K96 G96 K97 G97 K98 G98) := env_ok mixed tab_ok eqs_ok (.cons sem96 (.cons sem97 (.cons sem98 .nil)))
theorem is69 : FnIs Try.prog 69 (Γ69 K96 G96 K97 G97 K98 G98) (bodyOf Try.f69) := fnIs Try.func69 rfl rfl rfl (by kernel_rfl) (noLoops (by kernel_rfl))
theorem sem69 : SemOK Try.prog (69, fnMean A69 R69 K69 G69) := fn_opt env69 is69 fun x => ev69 K96 G96 K97 G97 K98 G98 x

/- "loop.example/g03321/spec.SlackFrom" -/
abbrev A27 : Ty := .cons (S48) (.cons (.cpx .f64) (.cons (.int .i64) (.cons (.flt .f32) (.nil))))
abbrev R27 : Ty := .cons (.int .i64) (.cons (.bool) (.nil))
abbrev V27_4 : Type := (((Nat × Nat) × (Int × (Nat × (Unit × (Int × Unit))))) × (((List (Den (S96))) × ((List (Den (.int .i64))) × Unit)) × Unit))
def sh27_4 : ShS := ⟨[(1, .one (.cpx .f64)), (2, .one (.int .i64)), (3, .one (.flt .f32)), (4, .one (.ptr 0 0)), (10, .one (.int .i64))], [(0, .box [.sl (S96), .sl (.int .i64)])], 1, 0⟩
abbrev X27_4 : Type := (Unit × Unit)
def shX27_4 : ShS := ⟨[], [], 0, 0⟩
abbrev Y27_4 : Type := ((Int × (Bool × Unit)) × Unit)
def shY27_4 : ShS := ⟨[(8, .one (.int .i64)), (9, .one (.bool))], [], 0, 0⟩
noncomputable def Γ27 (k68 : Den A68 → Bool) (g68 : Den A68 → Den R68) (k22 : Den A22 → Bool) (g22 : Den A22 → Den R22) (k39 : Den A39 → Bool) (g39 : Den A39 → Den R39) (k69 : Den A69 → Bool) (g69 : Den A69 → Den R69) (k70 : Den A70 → Bool) (g70 : Den A70 → Den R70) (kl4 : V27_4 → Bool) (xl4 : V27_4 → X27_4) (tl4 : V27_4 → Bool) (yl4 : V27_4 → Y27_4) : Env := mkEnv tab eqs [(68, fnMean A68 R68 k68 g68), (22, fnMean A22 R22 k22 g22), (39, fnMean A39 R39 k39 g39), (69, fnMean A69 R69 k69 g69), (70, fnMean A70 R70 k70 g70)] 59 [.tmp 8, .tmp 9] [] [] [(4, loopR [1, 2, 3, 4, 10] [] 0 [] [] sh27_4 shX27_4 shY27_4 kl4 tl4 xl4 yl4)] [] []
noncomputable def lc27_4 : Code := (loopsOf (bodyOf Try.f27)).getD 0 .skip
def q27_4 (k68 : Den A68 → Bool) (g68 : Den A68 → Den R68) (k22 : Den A22 → Bool) (g22 : Den A22 → Den R22) (k39 : Den A39 → Bool) (g39 : Den A39 → Den R39) (k69 : Den A69 → Bool) (g69 : Den A69 → Den R69) (k70 : Den A70 → Bool) (g70 : Den A70 → Den R70) (f : V27_4 → Option (X27_4 ⊕ Y27_4)) (v : V27_4) : Option (X27_4 ⊕ Y27_4) :=
  bif (decide (v.fst.snd.snd.snd.snd.fst ≤ 720)) then
    let v0 := (IntKind.wrap IntKind.i64 (60 * v.fst.snd.snd.snd.snd.fst))
    let v1 := (IntKind.wrap IntKind.i64 (v.fst.snd.fst + v0))
    let v2 := (k69 (v.snd.fst, v.fst.fst, v1, ()))
    bif (v2) then
      let v3 := (g69 (v.snd.fst, v.fst.fst, v1, ()))
      bif (v3.snd.1) then
        let v4 := (k70 (v3.fst.fst, ()))
        bif (v4) then
          let v5 := (g70 (v3.fst.fst, ()))
          bif (flt FloatKind.f32 v5.fst v.fst.snd.snd.fst || feq FloatKind.f32 v5.fst v.fst.snd.snd.fst) then
            let v6 := (k70 (v3.fst.snd, ()))
            bif (v6) then
              let v7 := (g70 (v3.fst.snd, ()))
              bif (flt FloatKind.f32 v7.fst v.fst.snd.snd.fst || feq FloatKind.f32 v7.fst v.fst.snd.snd.fst) then
                some (Sum.inr (((v1), ((true), ())), ()))
              else
                let v8 := (IntKind.wrap IntKind.i64 (v.fst.snd.snd.snd.snd.fst + 1))
                f ((((v.fst.fst.1), (v.fst.fst.2)), ((v.fst.snd.1), ((v.fst.snd.snd.1), ((), ((v8), ()))))), (((v.snd.fst.1), ((v.snd.fst.snd.1), ())), ()))
            else
              none
          else
            let v6 := (IntKind.wrap IntKind.i64 (v.fst.snd.snd.snd.snd.fst + 1))
            f ((((v.fst.fst.1), (v.fst.fst.2)), ((v.fst.snd.1), ((v.fst.snd.snd.1), ((), ((v6), ()))))), (((v.snd.fst.1), ((v.snd.fst.snd.1), ())), ()))
        else
          none
      else
        let v4 := (IntKind.wrap IntKind.i64 (v.fst.snd.snd.snd.snd.fst + 1))
        f ((((v.fst.fst.1), (v.fst.fst.2)), ((v.fst.snd.1), ((v.fst.snd.snd.1), ((), ((v4), ()))))), (((v.snd.fst.1), ((v.snd.fst.snd.1), ())), ()))
    else
      none
  else
    some (Sum.inl ((), ()))
theorem evl27_4 (k68 : Den A68 → Bool) (g68 : Den A68 → Den R68) (k22 : Den A22 → Bool) (g22 : Den A22 → Den R22) (k39 : Den A39 → Bool) (g39 : Den A39 → Den R39) (k69 : Den A69 → Bool) (g69 : Den A69 → Den R69) (k70 : Den A70 → Bool) (g70 : Den A70 → Den R70) (kl4 : V27_4 → Bool) (xl4 : V27_4 → X27_4) (tl4 : V27_4 → Bool) (yl4 : V27_4 → Y27_4) (f : V27_4 → Option (X27_4 ⊕ Y27_4)) (v : V27_4) : EBk (Γ27 k68 g68 k22 g22 k39 g39 k69 g69 k70 g70 kl4 xl4 tl4 yl4) lc27_4 (roundK [1, 2, 3, 4, 10] [] 0 [] [] (atS sh27_4 f) (endS shX27_4 shY27_4)) (mkS sh27_4 v) = q27_4 k68 g68 k22 g22 k39 g39 k69 g69 k70 g70 f v := by kernel_rfl
def b27_4 (v : V27_4) : Nat := v.1.2.1.natAbs + v.1.2.2.2.2.1.natAbs + v.2.1.1.length + v.2.1.2.1.length + 1000
def l27_4 (v : V27_4) : Option (X27_4 ⊕ Y27_4) := iter (q27_4 K68 G68 K22 G22 K39 G39 K69 G69 K70 G70) (b27_4 v) v
def kL27_4 (v : V27_4) : Bool := (l27_4 v).isSome
def tL27_4 (v : V27_4) : Bool := isR (l27_4 v)
def xL27_4 (v : V27_4) : X27_4 := xOf ((), ()) (l27_4 v)
def yL27_4 (v : V27_4) : Y27_4 := yOf ((0, (false, ())), ()) (l27_4 v)
def r27 (k68 : Den A68 → Bool) (g68 : Den A68 → Den R68) (k22 : Den A22 → Bool) (g22 : Den A22 → Den R22) (k39 : Den A39 → Bool) (g39 : Den A39 → Den R39) (k69 : Den A69 → Bool) (g69 : Den A69 → Den R69) (k70 : Den A70 → Bool) (g70 : Den A70 → Den R70) (kl4 : V27_4 → Bool) (xl4 : V27_4 → X27_4) (tl4 : V27_4 → Bool) (yl4 : V27_4 → Y27_4) (x : Den A27) : Option (Den R27) :=
  let v0 := (k68 (x.fst, ()))
  bif (v0) then
    let v1 := (g68 (x.fst, ()))
    bif (!v1.fst) then
      some ((0), ((false), ()))
    else
      let v2 := (k22 (x.snd.fst, ()))
      bif (v2) then
        let v3 := (g22 (x.snd.fst, ()))
        bif (!v3.fst) then
          some ((0), ((false), ()))
        else
          let v4 := (k39 (x.snd.snd.fst, -43260, 10000000, ()))
          bif (v4) then
            let v5 := (g39 (x.snd.snd.fst, -43260, 10000000, ()))
            bif (!v5.fst) then
              some ((0), ((false), ()))
            else
              let v6 := (kl4 ((x.snd.fst, x.snd.snd.fst, x.snd.snd.snd.fst, (), 0, ()), x.fst, ()))
              bif (v6) then
                let v7 := (tl4 ((x.snd.fst, x.snd.snd.fst, x.snd.snd.snd.fst, (), 0, ()), x.fst, ()))
                bif (v7) then
                  let v8 := (yl4 ((x.snd.fst, x.snd.snd.fst, x.snd.snd.snd.fst, (), 0, ()), x.fst, ()))
                  some ((v8.fst.1), ((v8.fst.snd.1), ()))
                else
                  some ((0), ((false), ()))
              else
                none
          else
            none
      else
        none
  else
    none
theorem ev27 (k68 : Den A68 → Bool) (g68 : Den A68 → Den R68) (k22 : Den A22 → Bool) (g22 : Den A22 → Den R22) (k39 : Den A39 → Bool) (g39 : Den A39 → Den R39) (k69 : Den A69 → Bool) (g69 : Den A69 → Den R69) (k70 : Den A70 → Bool) (g70 : Den A70 → Den R70) (kl4 : V27_4 → Bool) (xl4 : V27_4 → X27_4) (tl4 : V27_4 → Bool) (yl4 : V27_4 → Y27_4) (x : Den A27) : callK (Γ27 k68 g68 k22 g22 k39 g39 k69 g69 k70 g70 kl4 xl4 tl4 yl4) (bodyOf Try.f27) (decR R27) (encA A27 x) [] = r27 k68 g68 k22 g22 k39 g39 k69 g69 k70 g70 kl4 xl4 tl4 yl4 x := by kernel_rfl
def F27 (x : Den A27) : Option (Den R27) := r27 K68 G68 K22 G22 K39 G39 K69 G69 K70 G70 kL27_4 xL27_4 tL27_4 yL27_4 x
def K27 (x : Den A27) : Bool := (F27 x).isSome
def G27 (x : Den A27) : Den R27 := (F27 x).getD (zero R27)
theorem env27 : EnvOK Try.prog (Γ27 K68 G68 K22 G22 K39 G39 K69 G69 K70 G70 kL27_4 xL27_4 tL27_4 yL27_4) := env_ok mixed tab_ok eqs_ok (.cons sem68 (.cons sem22 (.cons sem39 (.cons sem69 (.cons sem70 .nil)))))
theorem is27 : FnIs Try.prog 27 (Γ27 K68 G68 K22 G22 K39 G39 K69 G69 K70 G70 kL27_4 xL27_4 tL27_4 yL27_4) (bodyOf Try.f27) := fnIs Try.func27 rfl rfl rfl (by kernel_rfl) (loops_ok (l := [lc27_4]) (by kernel_rfl) (.cons (one_loop rfl (loopR_sound (sh := sh27_4) (shX := shX27_4) (shR := shY27_4) (fun f v => evl27_4 K68 G68 K22 G22 K39 G39 K69 G69 K70 G70 kL27_4 xL27_4 tL27_4 yL27_4 f v) b27_4 ((), ()) ((0, (false, ())), ()))) (.nil)))
theorem sem27 : SemOK Try.prog (27, fnMean A27 R27 K27 G27) := fn_opt env27 is27 fun x => ev27 K68 G68 K22 G22 K39 G39 K69 G69 K70 G70 kL27_4 xL27_4 tL27_4 yL27_4 x

/- "loop.example/g03321/laws.amount" -/
abbrev A29 : Ty := .cons (.flt .f64) (.nil)
abbrev R29 : Ty := .cons (.flt .f64) (.nil)
noncomputable def Γ29 : Env := mkEnv tab eqs [] 8 [.tmp 2] [] [] [] [] []
def r29 (x : Den A29) : Option (Den R29) :=
  bif (flt FloatKind.f64 x.fst 0) then
    let v0 := (fneg FloatKind.f64 x.fst)
    some ((v0), ())
  else
    some ((x.1), ())
theorem ev29 (x : Den A29) : callK (Γ29) (bodyOf Try.f29) (decR R29) (encA A29 x) [] = r29 x := by kernel_rfl
def F29 (x : Den A29) : Option (Den R29) := r29 x
def K29 (x : Den A29) : Bool := (F29 x).isSome
def G29 (x : Den A29) : Den R29 := (F29 x).getD (zero R29)
theorem env29 : EnvOK Try.prog (Γ29) := env_ok mixed tab_ok eqs_ok .nil
theorem is29 : FnIs Try.prog 29 (Γ29) (bodyOf Try.f29) := fnIs Try.func29 rfl rfl rfl (by kernel_rfl) (noLoops (by kernel_rfl))
theorem sem29 : SemOK Try.prog (29, fnMean A29 R29 K29 G29) := fn_opt env29 is29 fun x => ev29 x

end Go.Proofs.Ytmmdjajebmihhaa.AM

/- What functions of the program make of their arguments; each is what its evaluation says. Printed by fx.py. -/
namespace Go.Proofs.Ytmmdjajebmihhaa.AM
open Go Go.Proofs
set_option linter.unusedVariables false
set_option maxRecDepth 100000
set_option maxHeartbeats 0

/- "loop.example/g03321/laws.FnTideStill" -/
abbrev A5 : Ty := .cons (.slice (.int .u8)) (.nil)
abbrev R5 : Ty := .cons (.bool) (.nil)
abbrev V5_5 : Type := (((Nat × Nat) × (Int × (Unit × (Unit × (Int × Unit))))) × ((List (Den (S53))) × (((List (Den (S96))) × ((List (Den (.int .i64))) × Unit)) × Unit)))
def sh5_5 : ShS := ⟨[(3, .one (.cpx .f64)), (4, .one (.int .i64)), (5, .one (.ref (S53) 0)), (6, .one (.ptr 1 0)), (7, .one (.int .i64))], [(0, .arr (S53)), (1, .box [.sl (S96), .sl (.int .i64)])], 2, 0⟩
abbrev X5_5 : Type := (((Nat × Nat) × (Int × (Unit × (Unit × Unit)))) × ((List (Den (S53))) × (((List (Den (S96))) × ((List (Den (.int .i64))) × Unit)) × Unit)))
def shX5_5 : ShS := ⟨[(3, .one (.cpx .f64)), (4, .one (.int .i64)), (5, .one (.ref (S53) 0)), (6, .one (.ptr 1 0))], [(0, .arr (S53)), (1, .box [.sl (S96), .sl (.int .i64)])], 2, 0⟩
abbrev V5_11 : Type := (((Nat × Nat) × (Unit × ((Nat × Nat) × (Bool × (Bool × (Int × Unit)))))) × ((List (Den (S53))) × Unit))
def sh5_11 : ShS := ⟨[(3, .one (.cpx .f64)), (5, .one (.ref (S53) 0)), (8, .one (.cpx .f64)), (9, .one (.bool)), (10, .one (.bool)), (11, .one (.int .i64))], [(0, .arr (S53))], 1, 0⟩
abbrev X5_11 : Type := (((Nat × Nat) × ((Nat × Nat) × (Bool × (Bool × Unit)))) × Unit)
def shX5_11 : ShS := ⟨[(3, .one (.cpx .f64)), (8, .one (.cpx .f64)), (9, .one (.bool)), (10, .one (.bool))], [], 0, 0⟩
noncomputable def Γ5 (k7 : Den A7 → Bool) (g7 : Den A7 → Den R7) (k20 : I20.den → Bool) (g20 : I20.den → O20.den) (k21 : Den A21 → Bool) (g21 : Den A21 → Den R21) (k22 : Den A22 → Bool) (g22 : Den A22 → Den R22) (k23 : Den A23 → Bool) (g23 : Den A23 → Den R23) (k24 : Den A24 → Bool) (g24 : Den A24 → Den R24) (kl5 : V5_5 → Bool) (xl5 : V5_5 → X5_5) (kl11 : V5_11 → Bool) (xl11 : V5_11 → X5_11) : Env := mkEnv tab eqs [(7, fnMean A7 R7 k7 g7), (20, sgMean false I20 O20 k20 g20), (21, fnMean A21 R21 k21 g21), (22, fnMean A22 R22 k22 g22), (23, fnMean A23 R23 k23 g23), (24, fnMean A24 R24 k24 g24)] 79 [.tmp 2] [] [] [(5, loopX [3, 4, 5, 6, 7] [] 0 [3, 4, 5, 6] [] sh5_5 shX5_5 kl5 xl5), (11, loopX [3, 5, 8, 9, 10, 11] [] 2 [3, 8, 9, 10] [] sh5_11 shX5_11 kl11 xl11)] [] []
noncomputable def lc5_5 : Code := (loopsOf (bodyOf Try.f5)).getD 0 .skip
noncomputable def lc5_11 : Code := (loopsOf (bodyOf Try.f5)).getD 1 .skip
def q5_11 (k7 : Den A7 → Bool) (g7 : Den A7 → Den R7) (k20 : I20.den → Bool) (g20 : I20.den → O20.den) (k21 : Den A21 → Bool) (g21 : Den A21 → Den R21) (k22 : Den A22 → Bool) (g22 : Den A22 → Den R22) (k23 : Den A23 → Bool) (g23 : Den A23 → Den R23) (k24 : Den A24 → Bool) (g24 : Den A24 → Den R24) (f : V5_11 → Option (X5_11)) (v : V5_11) : Option (X5_11) :=
  bif (decide (v.fst.snd.snd.snd.snd.snd.fst < (↑(List.length v.snd.fst) : Int))) then
    bif (v.fst.snd.snd.snd.snd.1) then
      bif (decide (0 ≤ v.fst.snd.snd.snd.snd.snd.fst) && decide (v.fst.snd.snd.snd.snd.snd.fst < (↑(List.length v.snd.fst) : Int))) then
        let v0 := (List.getD v.snd.fst (Int.toNat v.fst.snd.snd.snd.snd.snd.fst) (zero S53))
        let v1 := (k23 (v0, ()))
        bif (v1) then
          let v2 := (g23 (v0, ()))
          let v3 := (IntKind.wrap IntKind.i64 (v.fst.snd.snd.snd.snd.snd.fst + 1))
          f ((((v.fst.fst.1), (v.fst.fst.2)), ((), (((v.fst.snd.snd.fst.1), (v.fst.snd.snd.fst.2)), ((v.fst.snd.snd.snd.1), ((v2.1), ((v3), ())))))), ((v.snd.1), ()))
        else
          none
      else
        none
    else
      let v0 := (IntKind.wrap IntKind.i64 (v.fst.snd.snd.snd.snd.snd.fst + 1))
      f ((((v.fst.fst.1), (v.fst.fst.2)), ((), (((v.fst.snd.snd.fst.1), (v.fst.snd.snd.fst.2)), ((v.fst.snd.snd.snd.1), ((false), ((v0), ())))))), ((v.snd.1), ()))
  else
    some ((((v.fst.fst.1), (v.fst.fst.2)), (((v.fst.snd.snd.fst.1), (v.fst.snd.snd.fst.2)), ((v.fst.snd.snd.snd.1), ((v.fst.snd.snd.snd.snd.1), ())))), ())
theorem evl5_11 (k7 : Den A7 → Bool) (g7 : Den A7 → Den R7) (k20 : I20.den → Bool) (g20 : I20.den → O20.den) (k21 : Den A21 → Bool) (g21 : Den A21 → Den R21) (k22 : Den A22 → Bool) (g22 : Den A22 → Den R22) (k23 : Den A23 → Bool) (g23 : Den A23 → Den R23) (k24 : Den A24 → Bool) (g24 : Den A24 → Den R24) (kl5 : V5_5 → Bool) (xl5 : V5_5 → X5_5) (kl11 : V5_11 → Bool) (xl11 : V5_11 → X5_11) (f : V5_11 → Option (X5_11)) (v : V5_11) : EBk (Γ5 k7 g7 k20 g20 k21 g21 k22 g22 k23 g23 k24 g24 kl5 xl5 kl11 xl11) lc5_11 (roundK [3, 5, 8, 9, 10, 11] [] 2 [3, 8, 9, 10] [] (atS sh5_11 f) (endX shX5_11)) (mkS sh5_11 v) = q5_11 k7 g7 k20 g20 k21 g21 k22 g22 k23 g23 k24 g24 f v := by kernel_rfl
def b5_11 (v : V5_11) : Nat := v.1.2.2.2.2.2.1.natAbs + v.2.1.length + 1000
def l5_11 (v : V5_11) : Option (X5_11) := iter (q5_11 K7 G7 K20 G20 K21 G21 K22 G22 K23 G23 K24 G24) (b5_11 v) v
def kL5_11 (v : V5_11) : Bool := (l5_11 v).isSome
def xL5_11 (v : V5_11) : X5_11 := (l5_11 v).getD (((0, 0), ((0, 0), (false, (false, ())))), ())
def q5_5 (k7 : Den A7 → Bool) (g7 : Den A7 → Den R7) (k20 : I20.den → Bool) (g20 : I20.den → O20.den) (k21 : Den A21 → Bool) (g21 : Den A21 → Den R21) (k22 : Den A22 → Bool) (g22 : Den A22 → Den R22) (k23 : Den A23 → Bool) (g23 : Den A23 → Den R23) (k24 : Den A24 → Bool) (g24 : Den A24 → Den R24) (f : V5_5 → Option (X5_5)) (v : V5_5) : Option (X5_5) :=
  bif (decide (v.fst.snd.snd.snd.snd.fst < (↑(List.length v.snd.fst) : Int))) then
    bif (decide (0 ≤ v.fst.snd.snd.snd.snd.fst) && decide (v.fst.snd.snd.snd.snd.fst < (↑(List.length v.snd.fst) : Int))) then
      let v0 := (IntKind.wrap IntKind.i64 (v.fst.snd.snd.snd.snd.fst + 1))
      let v1 := (List.getD v.snd.fst (Int.toNat v.fst.snd.snd.snd.snd.fst) (zero S53))
      let v2 := (List.set v.snd.fst (Int.toNat v.fst.snd.snd.snd.snd.fst) (v1.fst, v1.snd.fst, 0, ()))
      f ((((v.fst.fst.1), (v.fst.fst.2)), ((v.fst.snd.1), ((), ((), ((v0), ()))))), ((v2), (((v.snd.snd.fst.1), ((v.snd.snd.fst.snd.1), ())), ())))
    else
      none
  else
    some ((((v.fst.fst.1), (v.fst.fst.2)), ((v.fst.snd.1), ((), ((), ())))), ((v.snd.1), (((v.snd.snd.fst.1), ((v.snd.snd.fst.snd.1), ())), ())))
theorem evl5_5 (k7 : Den A7 → Bool) (g7 : Den A7 → Den R7) (k20 : I20.den → Bool) (g20 : I20.den → O20.den) (k21 : Den A21 → Bool) (g21 : Den A21 → Den R21) (k22 : Den A22 → Bool) (g22 : Den A22 → Den R22) (k23 : Den A23 → Bool) (g23 : Den A23 → Den R23) (k24 : Den A24 → Bool) (g24 : Den A24 → Den R24) (kl5 : V5_5 → Bool) (xl5 : V5_5 → X5_5) (kl11 : V5_11 → Bool) (xl11 : V5_11 → X5_11) (f : V5_5 → Option (X5_5)) (v : V5_5) : EBk (Γ5 k7 g7 k20 g20 k21 g21 k22 g22 k23 g23 k24 g24 kl5 xl5 kl11 xl11) lc5_5 (roundK [3, 4, 5, 6, 7] [] 0 [3, 4, 5, 6] [] (atS sh5_5 f) (endX shX5_5)) (mkS sh5_5 v) = q5_5 k7 g7 k20 g20 k21 g21 k22 g22 k23 g23 k24 g24 f v := by kernel_rfl
def b5_5 (v : V5_5) : Nat := v.1.2.1.natAbs + v.1.2.2.2.2.1.natAbs + v.2.1.length + v.2.2.1.1.length + v.2.2.1.2.1.length + 1000
def l5_5 (v : V5_5) : Option (X5_5) := iter (q5_5 K7 G7 K20 G20 K21 G21 K22 G22 K23 G23 K24 G24) (b5_5 v) v
def kL5_5 (v : V5_5) : Bool := (l5_5 v).isSome
def xL5_5 (v : V5_5) : X5_5 := (l5_5 v).getD (((0, 0), (0, ((), ((), ())))), ([], (([], ([], ())), ())))
def r5 (k7 : Den A7 → Bool) (g7 : Den A7 → Den R7) (k20 : I20.den → Bool) (g20 : I20.den → O20.den) (k21 : Den A21 → Bool) (g21 : Den A21 → Den R21) (k22 : Den A22 → Bool) (g22 : Den A22 → Den R22) (k23 : Den A23 → Bool) (g23 : Den A23 → Den R23) (k24 : Den A24 → Bool) (g24 : Den A24 → Den R24) (kl5 : V5_5 → Bool) (xl5 : V5_5 → X5_5) (kl11 : V5_11 → Bool) (xl11 : V5_11 → X5_11) (x : Den A5) : Option (Den R5) :=
  let v0 := (k7 x)
  bif (v0) then
    let v1 := (g7 x)
    bif (v1.1) then
      some ((true), ())
    else
      let v2 := (k20 (x, ()))
      bif (v2) then
        let v3 := (g20 (x, ()))
        let v4 := (kl5 ((v3.fst.fst, v3.fst.snd.fst, (), (), 0, ()), v3.snd.fst, v3.fst.snd.snd.snd))
        bif (v4) then
          let v5 := (xl5 ((v3.fst.fst, v3.fst.snd.fst, (), (), 0, ()), v3.snd.fst, v3.fst.snd.snd.snd))
          let v6 := (k21 (v5.fst.fst, v5.fst.snd.fst, v5.snd))
          bif (v6) then
            bif (decide ((↑(List.length v5.snd.fst) : Int) ≤ 50)) then
              let v7 := (k22 (v5.fst.fst, ()))
              bif (v7) then
                let v8 := (g21 (v5.fst.fst, v5.fst.snd.fst, v5.snd))
                let v9 := (g22 (v5.fst.fst, ()))
                let v10 := (kl11 ((v5.fst.fst, (), v8.fst, v8.snd.fst, v9.fst, 0, ()), v5.snd.fst, ()))
                bif (v10) then
                  let v11 := (xl11 ((v5.fst.fst, (), v8.fst, v8.snd.fst, v9.fst, 0, ()), v5.snd.fst, ()))
                  bif (v11.fst.snd.snd.fst == v11.fst.snd.snd.snd.fst) then
                    bif (!v11.fst.snd.snd.fst) then
                      bif (feq FloatKind.f64 v11.fst.snd.fst.fst 0 && feq FloatKind.f64 v11.fst.snd.fst.snd 0) then
                        some ((true), ())
                      else
                        bif (v11.fst.snd.snd.1) then
                          let v12 := (k24 (v11.fst.snd.fst, v11.fst.fst, ()))
                          bif (v12) then
                            let v13 := (g24 (v11.fst.snd.fst, v11.fst.fst, ()))
                            some ((v13.1), ())
                          else
                            none
                        else
                          some ((false), ())
                    else
                      bif (v11.fst.snd.snd.1) then
                        let v12 := (k24 (v11.fst.snd.fst, v11.fst.fst, ()))
                        bif (v12) then
                          let v13 := (g24 (v11.fst.snd.fst, v11.fst.fst, ()))
                          some ((v13.1), ())
                        else
                          none
                      else
                        some ((false), ())
                  else
                    some ((false), ())
                else
                  none
              else
                none
            else
              let v7 := (g21 (v5.fst.fst, v5.fst.snd.fst, v5.snd))
              let v8 := (kl11 ((v5.fst.fst, (), v7.fst, v7.snd.fst, false, 0, ()), v5.snd.fst, ()))
              bif (v8) then
                let v9 := (xl11 ((v5.fst.fst, (), v7.fst, v7.snd.fst, false, 0, ()), v5.snd.fst, ()))
                bif (v9.fst.snd.snd.fst == v9.fst.snd.snd.snd.fst) then
                  bif (!v9.fst.snd.snd.fst) then
                    bif (feq FloatKind.f64 v9.fst.snd.fst.fst 0 && feq FloatKind.f64 v9.fst.snd.fst.snd 0) then
                      some ((true), ())
                    else
                      bif (v9.fst.snd.snd.1) then
                        let v10 := (k24 (v9.fst.snd.fst, v9.fst.fst, ()))
                        bif (v10) then
                          let v11 := (g24 (v9.fst.snd.fst, v9.fst.fst, ()))
                          some ((v11.1), ())
                        else
                          none
                      else
                        some ((false), ())
                  else
                    bif (v9.fst.snd.snd.1) then
                      let v10 := (k24 (v9.fst.snd.fst, v9.fst.fst, ()))
                      bif (v10) then
                        let v11 := (g24 (v9.fst.snd.fst, v9.fst.fst, ()))
                        some ((v11.1), ())
                      else
                        none
                    else
                      some ((false), ())
                else
                  some ((false), ())
              else
                none
          else
            none
        else
          none
      else
        none
  else
    none
theorem ev5 (k7 : Den A7 → Bool) (g7 : Den A7 → Den R7) (k20 : I20.den → Bool) (g20 : I20.den → O20.den) (k21 : Den A21 → Bool) (g21 : Den A21 → Den R21) (k22 : Den A22 → Bool) (g22 : Den A22 → Den R22) (k23 : Den A23 → Bool) (g23 : Den A23 → Den R23) (k24 : Den A24 → Bool) (g24 : Den A24 → Den R24) (kl5 : V5_5 → Bool) (xl5 : V5_5 → X5_5) (kl11 : V5_11 → Bool) (xl11 : V5_11 → X5_11) (x : Den A5) : callK (Γ5 k7 g7 k20 g20 k21 g21 k22 g22 k23 g23 k24 g24 kl5 xl5 kl11 xl11) (bodyOf Try.f5) (decR R5) (encA A5 x) [] = r5 k7 g7 k20 g20 k21 g21 k22 g22 k23 g23 k24 g24 kl5 xl5 kl11 xl11 x := by kernel_rfl
def F5 (x : Den A5) : Option (Den R5) := r5 K7 G7 K20 G20 K21 G21 K22 G22 K23 G23 K24 G24 kL5_5 xL5_5 kL5_11 xL5_11 x
def K5 (x : Den A5) : Bool := (F5 x).isSome
def G5 (x : Den A5) : Den R5 := (F5 x).getD (zero R5)
theorem env5 : EnvOK Try.prog (Γ5 K7 G7 K20 G20 K21 G21 K22 G22 K23 G23 K24 G24 kL5_5 xL5_5 kL5_11 xL5_11) := env_ok mixed tab_ok eqs_ok (.cons sem7 (.cons sem20 (.cons sem21 (.cons sem22 (.cons sem23 (.cons sem24 .nil))))))
theorem is5 : FnIs Try.prog 5 (Γ5 K7 G7 K20 G20 K21 G21 K22 G22 K23 G23 K24 G24 kL5_5 xL5_5 kL5_11 xL5_11) (bodyOf Try.f5) := fnIs Try.func5 rfl rfl rfl (by kernel_rfl) (loops_ok (l := [lc5_5, lc5_11]) (by kernel_rfl) (.cons (one_loop rfl (loopX_sound (sh := sh5_5) (shX := shX5_5) (fun f v => evl5_5 K7 G7 K20 G20 K21 G21 K22 G22 K23 G23 K24 G24 kL5_5 xL5_5 kL5_11 xL5_11 f v) b5_5 (((0, 0), (0, ((), ((), ())))), ([], (([], ([], ())), ()))))) (.cons (one_loop rfl (loopX_sound (sh := sh5_11) (shX := shX5_11) (fun f v => evl5_11 K7 G7 K20 G20 K21 G21 K22 G22 K23 G23 K24 G24 kL5_5 xL5_5 kL5_11 xL5_11 f v) b5_11 (((0, 0), ((0, 0), (false, (false, ())))), ()))) (.nil))))
theorem sem5 : SemOK Try.prog (5, fnMean A5 R5 K5 G5) := fn_opt env5 is5 fun x => ev5 K7 G7 K20 G20 K21 G21 K22 G22 K23 G23 K24 G24 kL5_5 xL5_5 kL5_11 xL5_11 x

/- "loop.example/g03321/laws.FnSlackFirst" -/
abbrev A6 : Ty := .cons (.slice (.int .u8)) (.nil)
abbrev R6 : Ty := .cons (.bool) (.nil)
noncomputable def Γ6 (k7 : Den A7 → Bool) (g7 : Den A7 → Den R7) (k25 : Den A25 → Bool) (g25 : Den A25 → Den R25) (k26 : Den A26 → Bool) (g26 : Den A26 → Den R26) (k27 : Den A27 → Bool) (g27 : Den A27 → Den R27) (k28 : Den A28 → Bool) (g28 : Den A28 → Den R28) (k29 : Den A29 → Bool) (g29 : Den A29 → Den R29) : Env := mkEnv tab eqs [(7, fnMean A7 R7 k7 g7), (25, fnMean A25 R25 k25 g25), (26, fnMean A26 R26 k26 g26), (27, fnMean A27 R27 k27 g27), (28, fnMean A28 R28 k28 g28), (29, fnMean A29 R29 k29 g29)] 117 [.tmp 2] [] [] [] [] []
def r6 (k7 : Den A7 → Bool) (g7 : Den A7 → Den R7) (k25 : Den A25 → Bool) (g25 : Den A25 → Den R25) (k26 : Den A26 → Bool) (g26 : Den A26 → Den R26) (k27 : Den A27 → Bool) (g27 : Den A27 → Den R27) (k28 : Den A28 → Bool) (g28 : Den A28 → Den R28) (k29 : Den A29 → Bool) (g29 : Den A29 → Den R29) (x : Den A6) : Option (Den R6) :=
  let v0 := (k7 x)
  bif (v0) then
    let v1 := (g7 x)
    bif (v1.1) then
      some ((true), ())
    else
      let v2 := (k25 x)
      bif (v2) then
        let v3 := (g25 x)
        let v4 := (k26 v3)
        bif (v4) then
          let v5 := (k27 v3)
          bif (v5) then
            let v6 := (g26 v3)
            let v7 := (g27 v3)
            bif (!v6.snd.fst == v7.snd.fst) then
              some ((false), ())
            else
              bif (!v6.snd.fst) then
                some ((v6.fst == 0), ())
              else
                let v8 := (k28 (v3.fst, v3.snd.fst, v6.fst, ()))
                bif (v8) then
                  let v9 := (g28 (v3.fst, v3.snd.fst, v6.fst, ()))
                  bif (!v9.snd.fst) then
                    some ((false), ())
                  else
                    let v10 := (k29 ((convF FloatKind.f32 FloatKind.f64 v9.fst.fst).snd, ()))
                    bif (v10) then
                      let v11 := (g29 ((convF FloatKind.f32 FloatKind.f64 v9.fst.fst).snd, ()))
                      bif (fgt FloatKind.f64 v11.fst (convF FloatKind.f32 FloatKind.f64 v3.snd.snd.snd.fst).snd) then
                        some ((false), ())
                      else
                        let v12 := (k29 ((convF FloatKind.f32 FloatKind.f64 v9.fst.snd).snd, ()))
                        bif (v12) then
                          let v13 := (g29 ((convF FloatKind.f32 FloatKind.f64 v9.fst.snd).snd, ()))
                          bif (fgt FloatKind.f64 v13.fst (convF FloatKind.f32 FloatKind.f64 v3.snd.snd.snd.fst).snd) then
                            some ((false), ())
                          else
                            let v14 := (IntKind.wrap IntKind.i64 (v6.fst - v3.snd.snd.fst))
                            bif (Int.tmod v14 60 != 0) then
                              some ((false), ())
                            else
                              bif (v6.fst == v3.snd.snd.fst) then
                                some ((true), ())
                              else
                                let v15 := (IntKind.wrap IntKind.i64 (v6.fst - 60))
                                let v16 := (k28 (v3.fst, v3.snd.fst, v15, ()))
                                bif (v16) then
                                  bif (decide (v6.fst > v3.snd.snd.fst)) then
                                    let v17 := (g28 (v3.fst, v3.snd.fst, v15, ()))
                                    bif (!v17.snd.fst) then
                                      some ((true), ())
                                    else
                                      let v18 := (k29 ((convF FloatKind.f32 FloatKind.f64 v17.fst.fst).snd, ()))
                                      bif (v18) then
                                        let v19 := (g29 ((convF FloatKind.f32 FloatKind.f64 v17.fst.fst).snd, ()))
                                        bif (fgt FloatKind.f64 v19.fst (convF FloatKind.f32 FloatKind.f64 v3.snd.snd.snd.fst).snd) then
                                          some ((true), ())
                                        else
                                          let v20 := (k29 ((convF FloatKind.f32 FloatKind.f64 v17.fst.snd).snd, ()))
                                          bif (v20) then
                                            let v21 := (g29 ((convF FloatKind.f32 FloatKind.f64 v17.fst.snd).snd, ()))
                                            some ((fgt FloatKind.f64 v21.fst (convF FloatKind.f32 FloatKind.f64 v3.snd.snd.snd.fst).snd), ())
                                          else
                                            none
                                      else
                                        none
                                  else
                                    some ((false), ())
                                else
                                  none
                        else
                          none
                    else
                      none
                else
                  none
          else
            none
        else
          none
      else
        none
  else
    none
theorem ev6 (k7 : Den A7 → Bool) (g7 : Den A7 → Den R7) (k25 : Den A25 → Bool) (g25 : Den A25 → Den R25) (k26 : Den A26 → Bool) (g26 : Den A26 → Den R26) (k27 : Den A27 → Bool) (g27 : Den A27 → Den R27) (k28 : Den A28 → Bool) (g28 : Den A28 → Den R28) (k29 : Den A29 → Bool) (g29 : Den A29 → Den R29) (x : Den A6) : callK (Γ6 k7 g7 k25 g25 k26 g26 k27 g27 k28 g28 k29 g29) (bodyOf Try.f6) (decR R6) (encA A6 x) [] = r6 k7 g7 k25 g25 k26 g26 k27 g27 k28 g28 k29 g29 x := by kernel_rfl
def F6 (x : Den A6) : Option (Den R6) := r6 K7 G7 K25 G25 K26 G26 K27 G27 K28 G28 K29 G29 x
def K6 (x : Den A6) : Bool := (F6 x).isSome
def G6 (x : Den A6) : Den R6 := (F6 x).getD (zero R6)
theorem env6 : EnvOK Try.prog (Γ6 K7 G7 K25 G25 K26 G26 K27 G27 K28 G28 K29 G29) := env_ok mixed tab_ok eqs_ok (.cons sem7 (.cons sem25 (.cons sem26 (.cons sem27 (.cons sem28 (.cons sem29 .nil))))))
theorem is6 : FnIs Try.prog 6 (Γ6 K7 G7 K25 G25 K26 G26 K27 G27 K28 G28 K29 G29) (bodyOf Try.f6) := fnIs Try.func6 rfl rfl rfl (by kernel_rfl) (noLoops (by kernel_rfl))
theorem sem6 : SemOK Try.prog (6, fnMean A6 R6 K6 G6) := fn_opt env6 is6 fun x => ev6 K7 G7 K25 G25 K26 G26 K27 G27 K28 G28 K29 G29 x

end Go.Proofs.Ytmmdjajebmihhaa.AM
