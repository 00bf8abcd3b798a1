/- The third layer: a pair, a volume. -/
import Derived.Test.YtjjobkpflphpiaaGreatAiDnF
set_option maxRecDepth 100000
set_option linter.unusedVariables false
set_option linter.unusedSimpArgs false
namespace Go.Ai.Dn
noncomputable def ann55 : Nat → Option (List (Nat × Mode)) := lookN []
noncomputable def pl55 : Nat → Option (List (Nat × Bool) × List Nat) := lookN []
theorem e55 {ρ : Type} (fu : Nat) (K : AV → List (Nat × AO) → Nat → Option ρ) (b : List UInt8) :
    aFun E2 ann55 pl55 fu Go.Proofs.Tryz.f55 [AV.sl Ty.byte b] [] 0 K =
    bif rg (0 : Int) (4294967296 : Nat) && lg b then K (AV.int IntKind.u32 (↑(sumN (0 : Nat) b) : Int)) [] (0 : Nat)
else none := by kernel_rfl
noncomputable def ann94 : Nat → Option (List (Nat × Mode)) := lookN []
noncomputable def pl94 : Nat → Option (List (Nat × Bool) × List Nat) := lookN []
theorem e94 {ρ : Type} (fu : Nat) (K : AV → List (Nat × AO) → Nat → Option ρ) (b : List UInt8) :
    aFun E2 ann94 pl94 fu Go.Proofs.Tryz.f94 [AV.sl Ty.byte b] [] 0 K =
    bif rg (0 : Int) (4294967296 : Nat) && lg b then K (AV.int IntKind.u32 (↑(sumN (0 : Nat) b) : Int)) [] (0 : Nat)
else none := by kernel_rfl
noncomputable def ann20 : Nat → Option (List (Nat × Mode)) := lookN []
noncomputable def pl20 : Nat → Option (List (Nat × Bool) × List Nat) := lookN []
theorem e20 {ρ : Type} (fu : Nat) (K : AV → List (Nat × AO) → Nat → Option ρ) (b : List UInt8) (n : Int) :
    aFun E2 ann20 pl20 fu Go.Proofs.Tryz.f20 [AV.sl Ty.byte b, AV.int IntKind.u8 n] [] 0 K =
    bif rg n (256 : Nat) then
  bif sg (16 : Nat) b then
    K (AV.own (0 : Nat)) [((0 : Nat), AO.row Ty.byte (b ++ [UInt8.ofNat (Int.toNat n)]))] (1 : Nat)
  else none
else none := by kernel_rfl
noncomputable def ann51 : Nat → Option (List (Nat × Mode)) := lookN []
noncomputable def pl51 : Nat → Option (List (Nat × Bool) × List Nat) := lookN []
theorem e51 {ρ : Type} (fu : Nat) (K : AV → List (Nat × AO) → Nat → Option ρ) (b : List UInt8) (n : Int) :
    aFun E2 ann51 pl51 fu Go.Proofs.Tryz.f51 [AV.sl Ty.byte b, AV.int IntKind.u32 n] [] 0 K =
    bif rg n (4294967296 : Nat) then
  bif sg (16 : Nat) b then K (AV.own (0 : Nat)) [((0 : Nat), AO.row Ty.byte (b ++ be4 (Int.toNat n)))] (1 : Nat)
  else none
else none := by kernel_rfl
noncomputable def ann69 : Nat → Option (List (Nat × Mode)) := lookN []
noncomputable def pl69 : Nat → Option (List (Nat × Bool) × List Nat) := lookN [(5, [(0, true), (1, true), (2, true), (3, true), (4, true), (5, true), (6, false), (7, true), (8, true)], [])]
theorem e69 {ρ : Type} (fu : Nat) (K : AV → List (Nat × AO) → Nat → Option ρ) (last : List UInt8) (b : List UInt8) (a : Int) (e : Int) :
    aFun E2 ann69 pl69 fu Go.Proofs.Tryz.f69 [AV.ptr (0 : Nat) (0 : Nat), AV.str last] [((0 : Nat), AO.box [AV.sl Ty.byte b, AV.int IntKind.i64 a, AV.int IntKind.i64 e])] 1 K =
    bif rdOk b a then
  bif decide (IntKind.wrap IntKind.i64 (takeV b a e (1 : Int)) > (↑(List.length last) : Int)) then
    bif rdOk b (takeA b a e (1 : Int)) then
      bif
          decide
            (List.length (List.take (0 : Nat) last) +
                List.length
                  (textS b (takeA b a e (1 : Int))
                    (if takeE b a e (1 : Int) = (0 : Int) then (3 : Int) else takeE b a e (1 : Int)) (16 : Int)) ≤
              lim) then
        bif
            rdOk b
              (textA b (takeA b a e (1 : Int))
                (if takeE b a e (1 : Int) = (0 : Int) then (3 : Int) else takeE b a e (1 : Int)) (16 : Int)) then
          K
            (AV.agg
              [AV.str
                  (List.take (0 : Nat) last ++
                    textS b (takeA b a e (1 : Int))
                      (if takeE b a e (1 : Int) = (0 : Int) then (3 : Int) else takeE b a e (1 : Int)) (16 : Int)),
                AV.str
                  (textS b
                    (textA b (takeA b a e (1 : Int))
                      (if takeE b a e (1 : Int) = (0 : Int) then (3 : Int) else takeE b a e (1 : Int)) (16 : Int))
                    (textE b (takeA b a e (1 : Int))
                      (if takeE b a e (1 : Int) = (0 : Int) then (3 : Int) else takeE b a e (1 : Int)) (16 : Int))
                    (32 : Int))])
            [((0 : Nat),
                AO.box
                  [AV.sl Ty.byte b,
                    AV.int IntKind.i64
                      (textA b
                        (textA b (takeA b a e (1 : Int))
                          (if takeE b a e (1 : Int) = (0 : Int) then (3 : Int) else takeE b a e (1 : Int)) (16 : Int))
                        (textE b (takeA b a e (1 : Int))
                          (if takeE b a e (1 : Int) = (0 : Int) then (3 : Int) else takeE b a e (1 : Int)) (16 : Int))
                        (32 : Int)),
                    AV.int IntKind.i64
                      (textE b
                        (textA b (takeA b a e (1 : Int))
                          (if takeE b a e (1 : Int) = (0 : Int) then (3 : Int) else takeE b a e (1 : Int)) (16 : Int))
                        (textE b (takeA b a e (1 : Int))
                          (if takeE b a e (1 : Int) = (0 : Int) then (3 : Int) else takeE b a e (1 : Int)) (16 : Int))
                        (32 : Int))])]
            (1 : Nat)
        else none
      else none
    else none
  else
    bif
        decide ((0 : Int) ≤ IntKind.wrap IntKind.i64 (takeV b a e (1 : Int))) &&
          decide (IntKind.wrap IntKind.i64 (takeV b a e (1 : Int)) ≤ (↑(List.length last) : Int)) then
      bif rdOk b (takeA b a e (1 : Int)) then
        bif
            decide
              (List.length (List.take (Int.toNat (IntKind.wrap IntKind.i64 (takeV b a e (1 : Int)))) last) +
                  List.length
                    (textS b (takeA b a e (1 : Int)) (takeE b a e (1 : Int))
                      (IntKind.wrap IntKind.i64 ((16 : Int) - IntKind.wrap IntKind.i64 (takeV b a e (1 : Int))))) ≤
                lim) then
          bif
              rdOk b
                (textA b (takeA b a e (1 : Int)) (takeE b a e (1 : Int))
                  (IntKind.wrap IntKind.i64 ((16 : Int) - IntKind.wrap IntKind.i64 (takeV b a e (1 : Int))))) then
            K
              (AV.agg
                [AV.str
                    (List.take (Int.toNat (IntKind.wrap IntKind.i64 (takeV b a e (1 : Int)))) last ++
                      textS b (takeA b a e (1 : Int)) (takeE b a e (1 : Int))
                        (IntKind.wrap IntKind.i64 ((16 : Int) - IntKind.wrap IntKind.i64 (takeV b a e (1 : Int))))),
                  AV.str
                    (textS b
                      (textA b (takeA b a e (1 : Int)) (takeE b a e (1 : Int))
                        (IntKind.wrap IntKind.i64 ((16 : Int) - IntKind.wrap IntKind.i64 (takeV b a e (1 : Int)))))
                      (textE b (takeA b a e (1 : Int)) (takeE b a e (1 : Int))
                        (IntKind.wrap IntKind.i64 ((16 : Int) - IntKind.wrap IntKind.i64 (takeV b a e (1 : Int)))))
                      (32 : Int))])
              [((0 : Nat),
                  AO.box
                    [AV.sl Ty.byte b,
                      AV.int IntKind.i64
                        (textA b
                          (textA b (takeA b a e (1 : Int)) (takeE b a e (1 : Int))
                            (IntKind.wrap IntKind.i64 ((16 : Int) - IntKind.wrap IntKind.i64 (takeV b a e (1 : Int)))))
                          (textE b (takeA b a e (1 : Int)) (takeE b a e (1 : Int))
                            (IntKind.wrap IntKind.i64 ((16 : Int) - IntKind.wrap IntKind.i64 (takeV b a e (1 : Int)))))
                          (32 : Int)),
                      AV.int IntKind.i64
                        (textE b
                          (textA b (takeA b a e (1 : Int)) (takeE b a e (1 : Int))
                            (IntKind.wrap IntKind.i64 ((16 : Int) - IntKind.wrap IntKind.i64 (takeV b a e (1 : Int)))))
                          (textE b (takeA b a e (1 : Int)) (takeE b a e (1 : Int))
                            (IntKind.wrap IntKind.i64 ((16 : Int) - IntKind.wrap IntKind.i64 (takeV b a e (1 : Int)))))
                          (32 : Int))])]
              (1 : Nat)
          else none
        else none
      else none
    else none
else none := by kernel_rfl
noncomputable def ann49 : Nat → Option (List (Nat × Mode)) := lookN [(4, [(2, .keep), (18, .keep), (19, .keep), (20, .keep)])]
noncomputable def pl49 : Nat → Option (List (Nat × Bool) × List Nat) := lookN [(6, [(0, true), (1, true), (2, true), (3, true), (4, true), (5, true), (6, true), (7, true), (8, true), (9, true), (10, true), (11, true), (12, true), (13, true), (14, true), (16, true), (18, true), (19, true), (15, true), (17, false), (20, true), (21, true), (22, false), (23, true), (24, true), (25, true)], [6])]
noncomputable def l49_4 {ρ : Type} (fu : Nat) (K : AV → List (Nat × AO) → Nat → Option ρ) (f4 : Nat) (x0 : Int) (x1 : Int) (x2 : List (List UInt8 × List UInt8)) (x3 : List UInt8) (x4 : List (List UInt8 × List UInt8)) : Option ρ :=
  loopAt E2 ann49 pl49 fu 0 Go.Proofs.Tryz.f49 [1, 1, 0, 1, 0] K [] f4 (St.mk (52 : Nat)
  [((20 : Nat), AV.int IntKind.i64 x0), ((19 : Nat), AV.int IntKind.i64 x1),
    ((18 : Nat), AV.sl (Ty.prod Ty.str Ty.str) x2), ((2 : Nat), AV.ptr (0 : Nat) (0 : Nat))]
  [((0 : Nat), AO.box [AV.str x3, AV.sl (Ty.prod Ty.str Ty.str) x4])] (1 : Nat))
theorem e49 {ρ : Type} (fu : Nat) (K : AV → List (Nat × AO) → Nat → Option ρ) (name : List UInt8) (last : List UInt8) (l : List (List UInt8 × List UInt8)) :
    aFun E2 ann49 pl49 fu Go.Proofs.Tryz.f49 [AV.agg [AV.str name, AV.sl (Ty.prod Ty.str Ty.str) l], AV.str last] [] 0 K =
    bif !nameB name then K (AV.bool false) [] (0 : Nat)
else
  bif Op.bytesLess name last || name == last then K (AV.bool false) [] (0 : Nat)
  else l49_4 fu K fu (0 : Int) (↑(List.length l) : Int) l name l := by kernel_rfl
theorem s49_4 {ρ : Type} (fu : Nat) (K : AV → List (Nat × AO) → Nat → Option ρ) (f4 : Nat) (x0 : Int) (x1 : Int) (x2 : List (List UInt8 × List UInt8)) (x3 : List UInt8) (x4 : List (List UInt8 × List UInt8)) :
    l49_4 fu K  (f4 + 1) x0 x1 x2 x3 x4 =
    bif decide (x0 < x1) then
  bif inb x0 (List.length x2) then
    bif decide ((↑(List.length (Prod.fst (List.getD x2 (Int.toNat x0) ([], [])))) : Int) > (16 : Int)) then
      K (AV.bool false) [] (0 : Nat)
    else
      bif decide ((↑(List.length (Prod.snd (List.getD x2 (Int.toNat x0) ([], [])))) : Int) > (32 : Int)) then
        K (AV.bool false) [] (0 : Nat)
      else
        bif decide (x0 > (0 : Int)) then
          bif inb (IntKind.wrap IntKind.i64 (x0 - (1 : Int))) (List.length x4) then
            bif
                Op.bytesLess (Prod.fst (List.getD x2 (Int.toNat x0) ([], [])))
                    (Prod.fst (List.getD x4 (Int.toNat (IntKind.wrap IntKind.i64 (x0 - (1 : Int)))) ([], []))) ||
                  Prod.fst (List.getD x2 (Int.toNat x0) ([], [])) ==
                    Prod.fst (List.getD x4 (Int.toNat (IntKind.wrap IntKind.i64 (x0 - (1 : Int)))) ([], [])) then
              K (AV.bool false) [] (0 : Nat)
            else l49_4 fu K f4 (IntKind.wrap IntKind.i64 (x0 + (1 : Int))) x1 x2 x3 x4
          else none
        else l49_4 fu K f4 (IntKind.wrap IntKind.i64 (x0 + (1 : Int))) x1 x2 x3 x4
  else none
else K (AV.bool true) [] (0 : Nat) := by kernel_rfl
noncomputable def ann16 : Nat → Option (List (Nat × Mode)) := lookN [(5, [(2, .keep), (3, .keep), (6, .bx [(true, 1, .prod .str .str)]), (1, .keep), (7, .keep), (5, .keep)])]
noncomputable def pl16 : Nat → Option (List (Nat × Bool) × List Nat) := lookN [(11, [(0, true), (1, true), (2, false), (3, false)], [6, 9]), (17, [(0, true), (1, true), (2, false), (3, false)], [6, 1])]
noncomputable def l16_5 {ρ : Type} (fu : Nat) (K : AV → List (Nat × AO) → Nat → Option ρ) (f5 : Nat) (x0 : Int) (x1 : List UInt8) (x2 : List UInt8) (x3 : Int) (x4 : Int) (x5 : List UInt8) (x6 : Int) (x7 : Int) (x8 : List UInt8) (x9 : List (List UInt8 × List UInt8)) : Option ρ :=
  loopAt E2 ann16 pl16 fu 0 Go.Proofs.Tryz.f16 [1, 1, 1, 1, 1, 0, 0] K [] f5 (St.mk (83 : Nat)
  [((5 : Nat), AV.int IntKind.u64 x0), ((7 : Nat), AV.str x1), ((1 : Nat), AV.ptr (0 : Nat) (0 : Nat)),
    ((6 : Nat), AV.ptr (1 : Nat) (0 : Nat)), ((3 : Nat), AV.ptr (2 : Nat) (0 : Nat)),
    ((2 : Nat), AV.ptr (3 : Nat) (0 : Nat))]
  [((0 : Nat), AO.box [AV.sl Ty.byte x2, AV.int IntKind.i64 x3, AV.int IntKind.i64 x4]),
    ((1 : Nat), AO.box [AV.str x5, AV.own (4 : Nat)]),
    ((2 : Nat), AO.box [AV.nils, AV.int IntKind.i64 x6, AV.int IntKind.i64 x7]),
    ((3 : Nat), AO.box [AV.str x8, AV.nils]), ((4 : Nat), AO.row (Ty.prod Ty.str Ty.str) x9)]
  (5 : Nat))
theorem e16 {ρ : Type} (fu : Nat) (K : AV → List (Nat × AO) → Nat → Option ρ) (b : List UInt8) (a : Int) (e : Int) :
    aFun E2 ann16 pl16 fu Go.Proofs.Tryz.f16 [AV.agg [AV.sl Ty.byte b, AV.int IntKind.i64 a, AV.int IntKind.i64 e]] [] 0 K =
    bif rdOk b a then
  bif rdOk b (textA b a e (16 : Int)) && rg (4 : Int) (9 : Nat) then
    l16_5 fu K fu (takeV b (textA b a e (16 : Int)) (textE b a e (16 : Int)) (4 : Int)) [] b
      (takeA b (textA b a e (16 : Int)) (textE b a e (16 : Int)) (4 : Int))
      (takeE b (textA b a e (16 : Int)) (textE b a e (16 : Int)) (4 : Int)) (textS b a e (16 : Int)) (0 : Int) (0 : Int)
      [] []
  else none
else none := by kernel_rfl
theorem s16_5 {ρ : Type} (fu : Nat) (K : AV → List (Nat × AO) → Nat → Option ρ) (f5 : Nat) (x0 : Int) (x1 : List UInt8) (x2 : List UInt8) (x3 : Int) (x4 : Int) (x5 : List UInt8) (x6 : Int) (x7 : Int) (x8 : List UInt8) (x9 : List (List UInt8 × List UInt8)) :
    l16_5 fu K  (f5 + 1) x0 x1 x2 x3 x4 x5 x6 x7 x8 x9 =
    bif decide (x0 > (0 : Int)) then
  bif x4 == (0 : Int) then
    bif rdOk x2 x3 && rg (1 : Int) (9 : Nat) then
      bif takeE x2 x3 x4 (1 : Int) == (0 : Int) then
        bif decide (IntKind.wrap IntKind.i64 (takeV x2 x3 x4 (1 : Int)) > (↑(List.length x1) : Int)) then
          K
            (AV.tup
              [AV.agg [AV.str x5, AV.own (0 : Nat)],
                AV.agg [AV.sl Ty.byte x2, AV.int IntKind.i64 (takeA x2 x3 x4 (1 : Int)), AV.int IntKind.i64 (3 : Int)]])
            [((0 : Nat), AO.row (Ty.prod Ty.str Ty.str) x9)] (1 : Nat)
        else
          bif takeE x2 x3 x4 (1 : Int) != (0 : Int) then
            K
              (AV.tup
                [AV.agg [AV.str x5, AV.own (0 : Nat)],
                  AV.agg
                    [AV.sl Ty.byte x2, AV.int IntKind.i64 (takeA x2 x3 x4 (1 : Int)),
                      AV.int IntKind.i64 (takeE x2 x3 x4 (1 : Int))]])
              [((0 : Nat), AO.row (Ty.prod Ty.str Ty.str) x9)] (1 : Nat)
          else
            bif rdOk x2 (takeA x2 x3 x4 (1 : Int)) then
              bif
                  rdOk x2
                    (textA x2 (takeA x2 x3 x4 (1 : Int)) (takeE x2 x3 x4 (1 : Int))
                      (IntKind.wrap IntKind.i64
                        ((16 : Int) - IntKind.wrap IntKind.i64 (takeV x2 x3 x4 (1 : Int))))) then
                bif
                    decide ((0 : Int) ≤ takeV x2 x3 x4 (1 : Int)) &&
                      decide (takeV x2 x3 x4 (1 : Int) ≤ (↑(List.length x1) : Int)) then
                  bif
                      decide
                        (List.length (List.take (Int.toNat (takeV x2 x3 x4 (1 : Int))) x1) +
                            List.length
                              (textS x2 (takeA x2 x3 x4 (1 : Int)) (takeE x2 x3 x4 (1 : Int))
                                (IntKind.wrap IntKind.i64
                                  ((16 : Int) - IntKind.wrap IntKind.i64 (takeV x2 x3 x4 (1 : Int))))) ≤
                          lim) then
                    bif decide (List.length x9 + (1 : Nat) ≤ lim) then
                      l16_5 fu K f5 (IntKind.wrap IntKind.u64 (x0 - (1 : Int)))
                        (List.take (Int.toNat (takeV x2 x3 x4 (1 : Int))) x1 ++
                          textS x2 (takeA x2 x3 x4 (1 : Int)) (takeE x2 x3 x4 (1 : Int))
                            (IntKind.wrap IntKind.i64
                              ((16 : Int) - IntKind.wrap IntKind.i64 (takeV x2 x3 x4 (1 : Int)))))
                        x2
                        (textA x2
                          (textA x2 (takeA x2 x3 x4 (1 : Int)) (takeE x2 x3 x4 (1 : Int))
                            (IntKind.wrap IntKind.i64
                              ((16 : Int) - IntKind.wrap IntKind.i64 (takeV x2 x3 x4 (1 : Int)))))
                          (textE x2 (takeA x2 x3 x4 (1 : Int)) (takeE x2 x3 x4 (1 : Int))
                            (IntKind.wrap IntKind.i64
                              ((16 : Int) - IntKind.wrap IntKind.i64 (takeV x2 x3 x4 (1 : Int)))))
                          (32 : Int))
                        (textE x2
                          (textA x2 (takeA x2 x3 x4 (1 : Int)) (takeE x2 x3 x4 (1 : Int))
                            (IntKind.wrap IntKind.i64
                              ((16 : Int) - IntKind.wrap IntKind.i64 (takeV x2 x3 x4 (1 : Int)))))
                          (textE x2 (takeA x2 x3 x4 (1 : Int)) (takeE x2 x3 x4 (1 : Int))
                            (IntKind.wrap IntKind.i64
                              ((16 : Int) - IntKind.wrap IntKind.i64 (takeV x2 x3 x4 (1 : Int)))))
                          (32 : Int))
                        x5 x6 x7 x8
                        (x9 ++
                          [(List.take (Int.toNat (takeV x2 x3 x4 (1 : Int))) x1 ++
                                textS x2 (takeA x2 x3 x4 (1 : Int)) (takeE x2 x3 x4 (1 : Int))
                                  (IntKind.wrap IntKind.i64
                                    ((16 : Int) - IntKind.wrap IntKind.i64 (takeV x2 x3 x4 (1 : Int)))),
                              textS x2
                                (textA x2 (takeA x2 x3 x4 (1 : Int)) (takeE x2 x3 x4 (1 : Int))
                                  (IntKind.wrap IntKind.i64
                                    ((16 : Int) - IntKind.wrap IntKind.i64 (takeV x2 x3 x4 (1 : Int)))))
                                (textE x2 (takeA x2 x3 x4 (1 : Int)) (takeE x2 x3 x4 (1 : Int))
                                  (IntKind.wrap IntKind.i64
                                    ((16 : Int) - IntKind.wrap IntKind.i64 (takeV x2 x3 x4 (1 : Int)))))
                                (32 : Int))])
                    else none
                  else none
                else none
              else none
            else none
      else
        bif takeE x2 x3 x4 (1 : Int) != (0 : Int) then
          K
            (AV.tup
              [AV.agg [AV.str x5, AV.own (0 : Nat)],
                AV.agg
                  [AV.sl Ty.byte x2, AV.int IntKind.i64 (takeA x2 x3 x4 (1 : Int)),
                    AV.int IntKind.i64 (takeE x2 x3 x4 (1 : Int))]])
            [((0 : Nat), AO.row (Ty.prod Ty.str Ty.str) x9)] (1 : Nat)
        else
          bif rdOk x2 (takeA x2 x3 x4 (1 : Int)) then
            bif
                rdOk x2
                  (textA x2 (takeA x2 x3 x4 (1 : Int)) (takeE x2 x3 x4 (1 : Int))
                    (IntKind.wrap IntKind.i64 ((16 : Int) - IntKind.wrap IntKind.i64 (takeV x2 x3 x4 (1 : Int))))) then
              bif
                  decide ((0 : Int) ≤ takeV x2 x3 x4 (1 : Int)) &&
                    decide (takeV x2 x3 x4 (1 : Int) ≤ (↑(List.length x1) : Int)) then
                bif
                    decide
                      (List.length (List.take (Int.toNat (takeV x2 x3 x4 (1 : Int))) x1) +
                          List.length
                            (textS x2 (takeA x2 x3 x4 (1 : Int)) (takeE x2 x3 x4 (1 : Int))
                              (IntKind.wrap IntKind.i64
                                ((16 : Int) - IntKind.wrap IntKind.i64 (takeV x2 x3 x4 (1 : Int))))) ≤
                        lim) then
                  bif decide (List.length x9 + (1 : Nat) ≤ lim) then
                    l16_5 fu K f5 (IntKind.wrap IntKind.u64 (x0 - (1 : Int)))
                      (List.take (Int.toNat (takeV x2 x3 x4 (1 : Int))) x1 ++
                        textS x2 (takeA x2 x3 x4 (1 : Int)) (takeE x2 x3 x4 (1 : Int))
                          (IntKind.wrap IntKind.i64 ((16 : Int) - IntKind.wrap IntKind.i64 (takeV x2 x3 x4 (1 : Int)))))
                      x2
                      (textA x2
                        (textA x2 (takeA x2 x3 x4 (1 : Int)) (takeE x2 x3 x4 (1 : Int))
                          (IntKind.wrap IntKind.i64 ((16 : Int) - IntKind.wrap IntKind.i64 (takeV x2 x3 x4 (1 : Int)))))
                        (textE x2 (takeA x2 x3 x4 (1 : Int)) (takeE x2 x3 x4 (1 : Int))
                          (IntKind.wrap IntKind.i64 ((16 : Int) - IntKind.wrap IntKind.i64 (takeV x2 x3 x4 (1 : Int)))))
                        (32 : Int))
                      (textE x2
                        (textA x2 (takeA x2 x3 x4 (1 : Int)) (takeE x2 x3 x4 (1 : Int))
                          (IntKind.wrap IntKind.i64 ((16 : Int) - IntKind.wrap IntKind.i64 (takeV x2 x3 x4 (1 : Int)))))
                        (textE x2 (takeA x2 x3 x4 (1 : Int)) (takeE x2 x3 x4 (1 : Int))
                          (IntKind.wrap IntKind.i64 ((16 : Int) - IntKind.wrap IntKind.i64 (takeV x2 x3 x4 (1 : Int)))))
                        (32 : Int))
                      x5 x6 x7 x8
                      (x9 ++
                        [(List.take (Int.toNat (takeV x2 x3 x4 (1 : Int))) x1 ++
                              textS x2 (takeA x2 x3 x4 (1 : Int)) (takeE x2 x3 x4 (1 : Int))
                                (IntKind.wrap IntKind.i64
                                  ((16 : Int) - IntKind.wrap IntKind.i64 (takeV x2 x3 x4 (1 : Int)))),
                            textS x2
                              (textA x2 (takeA x2 x3 x4 (1 : Int)) (takeE x2 x3 x4 (1 : Int))
                                (IntKind.wrap IntKind.i64
                                  ((16 : Int) - IntKind.wrap IntKind.i64 (takeV x2 x3 x4 (1 : Int)))))
                              (textE x2 (takeA x2 x3 x4 (1 : Int)) (takeE x2 x3 x4 (1 : Int))
                                (IntKind.wrap IntKind.i64
                                  ((16 : Int) - IntKind.wrap IntKind.i64 (takeV x2 x3 x4 (1 : Int)))))
                              (32 : Int))])
                  else none
                else none
              else none
            else none
          else none
    else none
  else
    K
      (AV.tup
        [AV.agg [AV.str x5, AV.own (0 : Nat)], AV.agg [AV.sl Ty.byte x2, AV.int IntKind.i64 x3, AV.int IntKind.i64 x4]])
      [((0 : Nat), AO.row (Ty.prod Ty.str Ty.str) x9)] (1 : Nat)
else
  K
    (AV.tup
      [AV.agg [AV.str x5, AV.own (0 : Nat)], AV.agg [AV.sl Ty.byte x2, AV.int IntKind.i64 x3, AV.int IntKind.i64 x4]])
    [((0 : Nat), AO.row (Ty.prod Ty.str Ty.str) x9)] (1 : Nat) := by kernel_rfl

noncomputable def v55 {ρ : Type} (K : AV → List (Nat × AO) → Nat → Option ρ) (b : List UInt8) : Option ρ := bif lg b then K (.int .u32 ((sumN 0 b : Nat) : Int)) [] 0 else none
noncomputable def S55 : Summ := fun ρ args hp K => match args, hp with
  | [.sl .byte b], [] => v55 K b
  | _, _ => none
theorem rg032 : rg (0 : Int) (4294967296 : Nat) = true := gd_t ⟨by omega, by omega⟩
theorem a55 {ρ : Type} {fin : ρ} (K : AV → List (Nat × AO) → Nat → Option ρ) (b : List UInt8) (h : v55 K b = some fin) : aFun E2 ann55 pl55 9 Go.Proofs.Tryz.f55 [.sl .byte b] [] 0 K = some fin := by
  rw [e55, rg032]; exact h
theorem a94 {ρ : Type} {fin : ρ} (K : AV → List (Nat × AO) → Nat → Option ρ) (b : List UInt8) (h : v55 K b = some fin) : aFun E2 ann94 pl94 9 Go.Proofs.Tryz.f94 [.sl .byte b] [] 0 K = some fin := by
  rw [e94, rg032]; exact h
theorem ok55 : SpecOk Go.Proofs.Tryz.prog 55 (adapt [.imm .byte] .keep S55) := adapt_ok (use mixed env2 Go.Proofs.Tryz.func55 (by kernel_rfl) (by
  intro ρ fin args hp K h
  unfold S55 at h
  split at h
  · exact ⟨_, _, _, a55 K _ h⟩
  · cases h)) _ _
theorem ok94 : SpecOk Go.Proofs.Tryz.prog 94 (adapt [.imm .byte] .keep S55) := adapt_ok (use mixed env2 Go.Proofs.Tryz.func94 (by kernel_rfl) (by
  intro ρ fin args hp K h
  unfold S55 at h
  split at h
  · exact ⟨_, _, _, a94 K _ h⟩
  · cases h)) _ _

noncomputable def S20 : Summ := fun ρ args hp K => match args, hp with
  | [.sl .byte b, .int .u8 n], [] => bif rg n 256 then vNum K b [UInt8.ofNat n.toNat] else none
  | _, _ => none
noncomputable def S51 : Summ := fun ρ args hp K => match args, hp with
  | [.sl .byte b, .int .u32 n], [] => bif rg n 4294967296 then vNum K b (be4 n.toNat) else none
  | _, _ => none
theorem ok20 : SpecOk Go.Proofs.Tryz.prog 20 (adapt [.imm .byte, .keep] .keep S20) := adapt_ok (use mixed env2 Go.Proofs.Tryz.func20 (by kernel_rfl) (by
  intro ρ fin args hp K h
  unfold S20 at h
  split at h
  · exact ⟨_, _, _, (e20 9 K _ _).trans h⟩
  · cases h)) _ _
theorem ok51 : SpecOk Go.Proofs.Tryz.prog 51 (adapt [.imm .byte, .keep] .keep S51) := adapt_ok (use mixed env2 Go.Proofs.Tryz.func51 (by kernel_rfl) (by
  intro ρ fin args hp K h
  unfold S51 at h
  split at h
  · exact ⟨_, _, _, (e51 9 K _ _).trans h⟩
  · cases h)) _ _

/-! A pair. -/
theorem rdOk_t {b : List UInt8} {k : Nat} (hk : k ≤ b.length) (hl : b.length ≤ 4294967296) : rdOk b (k : Int) = true := by
  unfold rdOk
  rw [lg_t hl, rg_t (by omega)]; rfl
/-- Where a reader is behind a number, behind a text. -/
theorem take_at (b : List UInt8) (k : Nat) (e : Int) (n : Nat) (hk : k ≤ b.length) (hn : n ≤ 8) : ∃ j : Nat, takeA b k e n = j ∧ k ≤ j ∧ j ≤ b.length ∧ (takeE b k e n = 0 → j = k + n) ∧ (takeE b k e n ≠ 0 → j = k) := by
  obtain ⟨h1, h2, _⟩ := take_is b k e n hk hn
  by_cases he : takeE b k e n = 0
  · obtain ⟨g1, _, g3⟩ := h1 he
    exact ⟨k + n, g3, by omega, g1, fun _ => rfl, fun h => absurd he h⟩
  · exact ⟨k, h2 he, by omega, hk, fun h => absurd h he, fun _ => rfl⟩
theorem text_at (b : List UInt8) (k : Nat) (e m : Int) (hk : k ≤ b.length) : ∃ j : Nat, textA b k e m = j ∧ k ≤ j ∧ j ≤ b.length ∧ (textE b k e m = 0 → k < j) ∧ (textE b k e m ≠ 0 → j = k) ∧ (textS b k e m).length ≤ 255 ∧ ((textS b k e m).length : Int) ≤ max m 0 := by
  obtain ⟨h1, h2, v, hv, hlt⟩ := take_is b k e 1 hk (by omega)
  have h1 : takeE b k e 1 = 0 → k + 1 ≤ b.length ∧ e = 0 ∧ takeA b k e 1 = ((k + 1 : Nat) : Int) := h1
  have hv : takeV b k e 1 = v := hv
  have hlt : v < 256 := by simpa using hlt
  unfold textA textS
  by_cases hE : textE b k e m = 0
  · rw [if_pos hE, if_pos hE, hv]
    have hE' := hE
    unfold textE at hE'
    split at hE'
    · rename_i h; exact absurd hE' h
    · rename_i h
      have h : takeE b k e 1 = 0 := by simpa using h
      obtain ⟨g1, _, _⟩ := h1 h
      split at hE'
      · cases hE'
      · split at hE'
        · cases hE'
        · rw [hv] at *
          refine ⟨k + 1 + v, by omega, by omega, by omega, fun _ => by omega, fun h => absurd hE h, ?_, ?_⟩
          · rw [List.length_take, List.length_drop]; omega
          · rw [List.length_take, List.length_drop]; omega
  · rw [if_neg hE, if_neg hE]
    refine ⟨k, rfl, by omega, hk, fun h => absurd h hE, fun _ => rfl, by simp, by simp; omega⟩

def pairN (b : List UInt8) (a e : Int) (last : List UInt8) : Int := if takeV b a e 1 > last.length then 0 else takeV b a e 1
def pairE0 (b : List UInt8) (a e : Int) (last : List UInt8) : Int := if takeV b a e 1 > last.length then (if takeE b a e 1 = 0 then 3 else takeE b a e 1) else takeE b a e 1
def pairK (b : List UInt8) (a e : Int) (last : List UInt8) : List UInt8 := last.take (pairN b a e last).toNat ++ textS b (takeA b a e 1) (pairE0 b a e last) (16 - pairN b a e last)
def pairA1 (b : List UInt8) (a e : Int) (last : List UInt8) : Int := textA b (takeA b a e 1) (pairE0 b a e last) (16 - pairN b a e last)
def pairE1 (b : List UInt8) (a e : Int) (last : List UInt8) : Int := textE b (takeA b a e 1) (pairE0 b a e last) (16 - pairN b a e last)
def pairV (b : List UInt8) (a e : Int) (last : List UInt8) : List UInt8 := textS b (pairA1 b a e last) (pairE1 b a e last) 32
def pairA (b : List UInt8) (a e : Int) (last : List UInt8) : Int := textA b (pairA1 b a e last) (pairE1 b a e last) 32
def pairE (b : List UInt8) (a e : Int) (last : List UInt8) : Int := textE b (pairA1 b a e last) (pairE1 b a e last) 32

noncomputable def v69 {ρ : Type} (K : AV → List (Nat × AO) → Nat → Option ρ) (b : List UInt8) (a e : Int) (last : List UInt8) : Option ρ :=
  bif rdOk b a && gd (last.length ≤ 1000) then K (.agg [.str (pairK b a e last), .str (pairV b a e last)]) [(0, .box [.sl .byte b, .int .i64 (pairA b a e last), .int .i64 (pairE b a e last)])] 1 else none
noncomputable def S69 : Summ := fun ρ args hp K => match args, hp with
  | [.ptr 0 0, .str last], [(0, .box [.sl .byte b, .int .i64 a, .int .i64 e])] => v69 K b a e last
  | _, _ => none
theorem a69 {ρ : Type} {fin : ρ} (K : AV → List (Nat × AO) → Nat → Option ρ) (b : List UInt8) (a e : Int) (last : List UInt8) (h : v69 K b a e last = some fin) : aFun E2 ann69 pl69 9 Go.Proofs.Tryz.f69 [.ptr 0 0, .str last] [(0, .box [.sl .byte b, .int .i64 a, .int .i64 e])] 1 K = some fin := by
  obtain ⟨hg, h⟩ := bif_t h
  rw [Bool.and_eq_true] at hg
  have hlast := gd_is hg.2
  obtain ⟨k, rfl, hk, hl⟩ := rdOk_is hg.1
  obtain ⟨_, _, v, hv, hlt⟩ := take_is b k e 1 hk (by omega)
  have hv : takeV b k e 1 = v := hv
  have hlt : v < 256 := by simpa using hlt
  obtain ⟨j, hj, hkj, hjl, _⟩ := take_at b k e 1 hk (by omega)
  have hj : takeA b k e 1 = j := hj
  rw [e69, hg.1, ← h]
  unfold pairK pairV pairA pairE pairA1 pairE1 pairN pairE0
  rw [hv, hj, wrap_i64 (n := (v : Int)) (by omega) (by omega), cond_true]
  by_cases hc : v > last.length
  · have h1 : decide ((v : Int) > (last.length : Int)) = true := decide_eq_true (by omega)
    have h2 : (v : Int) > (last.length : Int) := by omega
    rw [h1, cond_true, rdOk_t hjl hl, cond_true, if_pos h2, if_pos h2]
    obtain ⟨i, hi, hji, hil, _, _, hs, _⟩ := text_at b j (if takeE b k e 1 = 0 then 3 else takeE b k e 1) 16 hjl
    have hi16 : (16 : Int) - 0 = 16 := rfl
    rw [hi16, hi, rdOk_t hil hl, lim_t (by rw [List.length_take]; omega)]
    rfl
  · have h1 : decide ((v : Int) > (last.length : Int)) = false := decide_eq_false (by omega)
    have h2 : ¬ (v : Int) > (last.length : Int) := by omega
    have h3 : (decide ((0 : Int) ≤ (v : Int)) && decide ((v : Int) ≤ (last.length : Int))) = true := by simp; omega
    rw [h1, cond_false, h3, cond_true, rdOk_t hjl hl, cond_true, if_neg h2, if_neg h2, wrap_i64 (n := (16 : Int) - (v : Int)) (by omega) (by omega)]
    obtain ⟨i, hi, hji, hil, _, _, hs, _⟩ := text_at b j (takeE b k e 1) (16 - (v : Int)) hjl
    rw [hi, rdOk_t hil hl, lim_t (by rw [List.length_take]; omega)]
    rfl
theorem ok69 : SpecOk Go.Proofs.Tryz.prog 69 S69 := use mixed env2 Go.Proofs.Tryz.func69 (by kernel_rfl) (by
  intro ρ fin args hp K h
  unfold S69 at h
  split at h
  · exact ⟨_, _, _, a69 K _ _ _ _ h⟩
  · cases h)

/-! Pairs in order. -/
abbrev Prs := List (List UInt8 × List UInt8)
def le8 (x y : List UInt8) : Bool := Op.bytesLess x y || x == y
def rise : Prs → Bool
  | [] => true
  | [_] => true
  | p :: q :: r => !(le8 q.1 p.1) && rise (q :: r)
theorem rise_short (l : Prs) (h : l.length ≤ 1) : rise l = true := by
  match l, h with
  | [], _ => rfl
  | [_], _ => rfl
theorem rise_at (l : Prs) (k : Nat) (h : k + 1 < l.length) : rise (l.drop k) = (!(le8 l[k + 1].1 l[k].1) && rise (l.drop (k + 1))) := by
  have e1 : l.drop k = l[k] :: l.drop (k + 1) := List.drop_eq_getElem_cons (by omega)
  have e2 : l.drop (k + 1) = l[k + 1] :: l.drop (k + 1 + 1) := List.drop_eq_getElem_cons h
  rw [e1, e2]
  rfl
def small (l : Prs) : Prop := ∀ p ∈ l, p.1.length ≤ 16 ∧ p.2.length ≤ 32
theorem l49 {ρ : Type} (fu : Nat) (K : AV → List (Nat × AO) → Nat → Option ρ) (nm : List UInt8) (l : Prs) (hl : l.length ≤ 4294967296) (hs : small l) : ∀ (f k : Nat), l.length + 1 ≤ k + f → k ≤ l.length → l49_4 fu K f (k : Int) (l.length : Int) l nm l = K (.bool (rise (l.drop (k - 1)))) [] 0 ∨ f = 0
  | 0, _, _, _ => .inr rfl
  | f + 1, k, hf, hk => by
    left
    rw [s49_4]
    by_cases h : k < l.length
    · have h1 : decide ((k : Int) < (l.length : Int)) = true := decide_eq_true (by omega)
      have hsk := hs l[k] (List.getElem_mem h)
      have g1 : decide (((l[k].1.length : Nat) : Int) > 16) = false := decide_eq_false (by omega)
      have g2 : decide (((l[k].2.length : Nat) : Int) > 32) = false := decide_eq_false (by omega)
      have ih := l49 fu K nm l hl hs f (k + 1) (by omega) (by omega)
      have hf0 : f ≠ 0 := by omega
      rw [h1, cond_true, inb_nat h, cond_true, Int.toNat_natCast, getD_of h, g1, cond_false, g2, cond_false, wrap_i64 (n := (k : Int) + 1) (by omega) (by omega)]
      rcases ih with ih | ih
      · rw [show ((k : Int) + 1) = ((k + 1 : Nat) : Int) by omega, ih]
        cases k with
        | zero =>
          rfl
        | succ k =>
          have h2 : decide (((k + 1 : Nat) : Int) > 0) = true := decide_eq_true (by omega)
          have h3 : IntKind.wrap .i64 (((k + 1 : Nat) : Int) - 1) = (k : Int) := by rw [wrap_i64 (by omega) (by omega)]; omega
          rw [h2, cond_true, h3, inb_nat (show k < l.length by omega), cond_true, Int.toNat_natCast, getD_of (show k < l.length by omega)]
          rw [show k + 1 - 1 = k from rfl, show k + 1 + 1 - 1 = k + 1 from rfl, rise_at l k h]
          show (bif le8 l[k + 1].1 l[k].1 then _ else _) = _
          cases le8 l[k + 1].1 l[k].1 <;> rfl
      · omega
    · have h1 : decide ((k : Int) < (l.length : Int)) = false := decide_eq_false (by omega)
      rw [h1, cond_false, rise_short _ (by rw [List.length_drop]; omega)]
noncomputable def v49 {ρ : Type} (K : AV → List (Nat × AO) → Nat → Option ρ) (nm last : List UInt8) (l : Prs) : Option ρ := bif lg l && gd (small l) then K (.bool (nameB nm && (!(le8 nm last) && rise l))) [] 0 else none
noncomputable def S49 : Summ := fun ρ args hp K => match args, hp with
  | [.agg [.str nm, .sl (.prod .str .str) l], .str last], [] => v49 K nm last l
  | _, _ => none
theorem a49 {ρ : Type} {fin : ρ} (K : AV → List (Nat × AO) → Nat → Option ρ) (nm last : List UInt8) (l : Prs) (h : v49 K nm last l = some fin) : aFun E2 ann49 pl49 (l.length + 1) Go.Proofs.Tryz.f49 [.agg [.str nm, .sl (.prod .str .str) l], .str last] [] 0 K = some fin := by
  obtain ⟨hg, h⟩ := bif_t h
  rw [Bool.and_eq_true] at hg
  rw [e49, ← h]
  rcases l49 (l.length + 1) K nm l (lg_is hg.1) (gd_is hg.2) (l.length + 1) 0 (by omega) (by omega) with h3 | h3
  · have h3 : l49_4 (l.length + 1) K (l.length + 1) 0 (l.length : Int) l nm l = K (.bool (rise l)) [] 0 := h3
    rw [h3]
    show (bif !nameB nm then _ else (bif le8 nm last then _ else _)) = _
    cases nameB nm <;> cases le8 nm last <;> rfl
  · omega
theorem ok49 : SpecOk Go.Proofs.Tryz.prog 49 S49 := use mixed env2 Go.Proofs.Tryz.func49 (by kernel_rfl) (by
  intro ρ fin args hp K h
  unfold S49 at h
  split at h
  · exact ⟨_, _, _, a49 K _ _ _ h⟩
  · cases h)

theorem l95 {ρ : Type} (fu : Nat) (K : AV → List (Nat × AO) → Nat → Option ρ) (l : Prs) (hl : l.length ≤ 4294967296) : ∀ (f k : Nat), l.length + 1 ≤ k + 1 + f → k ≤ l.length → l95_2 fu K f ((k + 1 : Nat) : Int) l = K (.bool (rise (l.drop k))) [] 0 ∨ f = 0
  | 0, _, _, _ => .inr rfl
  | f + 1, k, hf, hk => by
    left
    rw [s95_2]
    by_cases h : k + 1 < l.length
    · have h1 : decide (((k + 1 : Nat) : Int) < (l.length : Int)) = true := decide_eq_true (by omega)
      have h3 : IntKind.wrap .i64 (((k + 1 : Nat) : Int) - 1) = (k : Int) := by rw [wrap_i64 (by omega) (by omega)]; omega
      rw [h1, cond_true, inb_nat h, cond_true, Int.toNat_natCast, getD_of h, h3, inb_nat (show k < l.length by omega), cond_true, Int.toNat_natCast, getD_of (show k < l.length by omega), wrap_i64 (n := ((k + 1 : Nat) : Int) + 1) (by omega) (by omega)]
      rcases l95 fu K l hl f (k + 1) (by omega) (by omega) with ih | ih
      · rw [show (((k + 1 : Nat) : Int) + 1) = ((k + 1 + 1 : Nat) : Int) by omega, ih, rise_at l k h]
        show (bif le8 l[k + 1].1 l[k].1 then _ else _) = _
        cases le8 l[k + 1].1 l[k].1 <;> rfl
      · omega
    · have h1 : decide (((k + 1 : Nat) : Int) < (l.length : Int)) = false := decide_eq_false (by omega)
      rw [h1, cond_false, rise_short _ (by rw [List.length_drop]; omega)]
noncomputable def v95 {ρ : Type} (K : AV → List (Nat × AO) → Nat → Option ρ) (l : Prs) : Option ρ := bif lg l then K (.bool (rise l)) [] 0 else none
noncomputable def S95 : Summ := fun ρ args hp K => match args, hp with
  | [.sl (.prod .str .str) l], [] => v95 K l
  | _, _ => none
theorem a95 {ρ : Type} {fin : ρ} (K : AV → List (Nat × AO) → Nat → Option ρ) (l : Prs) (h : v95 K l = some fin) : aFun E0 ann95 pl95 (l.length + 1) Go.Proofs.Tryz.f95 [.sl (.prod .str .str) l] [] 0 K = some fin := by
  obtain ⟨hg, h⟩ := bif_t h
  rw [e95, ← h]
  rcases l95 (l.length + 1) K l (lg_is hg) (l.length + 1) 0 (by omega) (by omega) with h3 | h3
  · exact h3
  · omega
theorem ok95 : SpecOk Go.Proofs.Tryz.prog 95 S95 := use mixed env0 Go.Proofs.Tryz.func95 (by kernel_rfl) (by
  intro ρ fin args hp K h
  unfold S95 at h
  split at h
  · exact ⟨_, _, _, a95 K _ h⟩
  · cases h)

/-! A volume, as the reference reads it. -/
def pairsR (b : List UInt8) : Nat → List UInt8 → Int → Int → Prs → Prs × Int × Int
  | 0, _, a, e, acc => (acc, a, e)
  | m + 1, last, a, e, acc =>
    if e ≠ 0 then (acc, a, e)
    else if takeE b a e 1 ≠ 0 then (acc, takeA b a e 1, takeE b a e 1)
    else if takeV b a e 1 > last.length then (acc, takeA b a e 1, 3)
    else pairsR b m (pairK b a e last) (pairA b a e last) (pairE b a e last) (acc ++ [(pairK b a e last, pairV b a e last)])

theorem key_len (b : List UInt8) (k : Nat) (e : Int) (last : List UInt8) (hk : k ≤ b.length) (hl : last.length ≤ 16) : (pairK b k e last).length ≤ 16 := by
  obtain ⟨_, _, v, hv, hlt⟩ := take_is b k e 1 hk (by omega)
  have hv : takeV b k e 1 = v := hv
  obtain ⟨j, hj, hkj, hjl, _⟩ := take_at b k e 1 hk (by omega)
  have hj : takeA b k e 1 = j := hj
  unfold pairK
  rw [hj, List.length_append, List.length_take]
  obtain ⟨_, _, _, _, _, _, _, hs⟩ := text_at b j (pairE0 b k e last) (16 - pairN b k e last) hjl
  unfold pairN at hs ⊢
  rw [hv] at hs ⊢
  split <;> rename_i h
  · rw [if_pos h] at hs; omega
  · rw [if_neg h] at hs; omega
theorem val_len (b : List UInt8) (k : Nat) (e : Int) (last : List UInt8) (hk : k ≤ b.length) : (pairV b k e last).length ≤ 32 := by
  obtain ⟨j, hj, hkj, hjl, _⟩ := take_at b k e 1 hk (by omega)
  have hj : takeA b k e 1 = j := hj
  unfold pairV pairA1
  rw [hj]
  obtain ⟨i, hi, hji, hil, _⟩ := text_at b j (pairE0 b k e last) (16 - pairN b k e last) hjl
  rw [hi]
  obtain ⟨_, _, _, _, _, _, _, hs⟩ := text_at b i (pairE1 b k e last) 32 hil
  omega
/-- Where a pair ends. -/
theorem pair_at (b : List UInt8) (k : Nat) (e : Int) (last : List UInt8) (hk : k ≤ b.length) : ∃ j : Nat, pairA b k e last = j ∧ k ≤ j ∧ j ≤ b.length ∧ (takeE b k e 1 = 0 → k < j) := by
  obtain ⟨j, hj, hkj, hjl, hj0, _⟩ := take_at b k e 1 hk (by omega)
  have hj : takeA b k e 1 = j := hj
  unfold pairA pairA1
  rw [hj]
  obtain ⟨i, hi, hji, hil, _⟩ := text_at b j (pairE0 b k e last) (16 - pairN b k e last) hjl
  rw [hi]
  obtain ⟨h, hh, hih, hhl, _⟩ := text_at b i (pairE1 b k e last) 32 hil
  exact ⟨h, hh, by omega, hhl, fun h0 => by have := hj0 h0; omega⟩

theorem l16 {ρ : Type} (fu : Nat) (K : AV → List (Nat × AO) → Nat → Option ρ) (b nm z8 : List UInt8) (z6 z7 : Int) (hb : b.length ≤ 65536) : ∀ (f m k : Nat) (e : Int) (last : List UInt8) (acc : Prs), k ≤ b.length → m < 4294967296 → last.length ≤ 16 → acc.length ≤ k → (if e = 0 then b.length + 2 ≤ k + f else 1 ≤ f) →
    l16_5 fu K f (m : Int) last b (k : Int) e nm z6 z7 z8 acc =
      K (.tup [.agg [.str nm, .own 0], .agg [.sl .byte b, .int .i64 (pairsR b m last k e acc).2.1, .int .i64 (pairsR b m last k e acc).2.2]]) [(0, .row (.prod .str .str) (pairsR b m last k e acc).1)] 1
  | 0, m, k, e, last, acc, hk, hm, hl, ha, hf => by
    exfalso
    split at hf <;> omega
  | f + 1, 0, k, e, last, acc, hk, hm, hl, ha, hf => by
    rw [s16_5]; rfl
  | f + 1, m + 1, k, e, last, acc, hk, hm, hl, ha, hf => by
    rw [s16_5]
    have h1 : decide (((m + 1 : Nat) : Int) > 0) = true := decide_eq_true (by omega)
    rw [h1, cond_true]
    by_cases he : e = 0
    · subst he
      rw [if_pos rfl] at hf
      obtain ⟨_, _, v, hv, hlt⟩ := take_is b k 0 1 hk (by omega)
      have hv : takeV b k 0 1 = v := hv
      have hlt : v < 256 := by simpa using hlt
      obtain ⟨j, hj, hkj, hjl, hj0, _⟩ := take_at b k 0 1 hk (by omega)
      have hj : takeA b k 0 1 = j := hj
      have hj0 : takeE b k 0 1 = 0 → j = k + 1 := hj0
      have hz : ((0 : Int) == 0) = true := rfl
      rw [hz, cond_true, rdOk_t hk (by omega), rg19, Bool.true_and, cond_true]
      by_cases hE : takeE b k 0 1 = 0
      · have hE1 : (takeE b k 0 1 == 0) = true := by rw [hE]; rfl
        have hE2 : (takeE b k 0 1 != 0) = false := by rw [hE]; rfl
        rw [hE1, cond_true, hE2, cond_false, hv, wrap_i64 (n := (v : Int)) (by omega) (by omega)]
        by_cases hc : v > last.length
        · have h2 : decide ((v : Int) > (last.length : Int)) = true := decide_eq_true (by omega)
          rw [h2, cond_true]
          have : pairsR b (m + 1) last k 0 acc = (acc, takeA b k 0 1, 3) := by
            rw [pairsR, if_neg (by simp), if_neg (by simp [hE]), hv, if_pos (by omega)]
          rw [this]
        · have h2 : decide ((v : Int) > (last.length : Int)) = false := decide_eq_false (by omega)
          have h3 : (decide ((0 : Int) ≤ (v : Int)) && decide ((v : Int) ≤ (last.length : Int))) = true := by simp; omega
          have hR : pairsR b (m + 1) last k 0 acc = pairsR b m (pairK b k 0 last) (pairA b k 0 last) (pairE b k 0 last) (acc ++ [(pairK b k 0 last, pairV b k 0 last)]) := by
            rw [pairsR, if_neg (by simp), if_neg (by simp [hE]), hv, if_neg (by omega)]
          obtain ⟨i, hi, hji, hil, _, _, hs, _⟩ := text_at b j (takeE b k 0 1) (16 - (v : Int)) hjl
          have hw : IntKind.wrap .u64 (((m + 1 : Nat) : Int) - 1) = (m : Int) := by rw [wrap_u64 (by omega) (by omega)]; omega
          rw [h2, cond_false, hj, rdOk_t hjl (by omega), cond_true, wrap_i64 (n := (16 : Int) - (v : Int)) (by omega) (by omega), hi, rdOk_t hil (by omega), cond_true, h3, cond_true, lim_t (by rw [List.length_take]; omega), cond_true, lim_t (by omega), cond_true, hw]
          have eN : pairN b k 0 last = v := by unfold pairN; rw [hv, if_neg (by omega)]
          have eE0 : pairE0 b k 0 last = takeE b k 0 1 := by unfold pairE0; rw [hv, if_neg (by omega)]
          have eK : last.take (v : Int).toNat ++ textS b j (takeE b k 0 1) (16 - (v : Int)) = pairK b k 0 last := by unfold pairK; rw [eN, eE0, hj]
          have eA1 : pairA1 b k 0 last = i := by unfold pairA1; rw [eN, eE0, hj, hi]
          have eE1 : textE b j (takeE b k 0 1) (16 - (v : Int)) = pairE1 b k 0 last := by unfold pairE1; rw [eN, eE0, hj]
          have eV : textS b i (textE b j (takeE b k 0 1) (16 - (v : Int))) 32 = pairV b k 0 last := by unfold pairV; rw [eA1, eE1]
          have eA : textA b i (textE b j (takeE b k 0 1) (16 - (v : Int))) 32 = pairA b k 0 last := by unfold pairA; rw [eA1, eE1]
          have eE : textE b i (textE b j (takeE b k 0 1) (16 - (v : Int))) 32 = pairE b k 0 last := by unfold pairE; rw [eA1, eE1]
          rw [eK, eV, eA, eE, hR]
          obtain ⟨q, hq, hkq, hql, hq0⟩ := pair_at b k 0 last hk
          have hq0 := hq0 hE
          rw [hq]
          have key := l16 fu K b nm z8 z6 z7 hb f m q (pairE b k 0 last) (pairK b k 0 last) (acc ++ [(pairK b k 0 last, pairV b k 0 last)]) hql (by omega) (key_len b k 0 last hk hl) (by simp; omega) (by split <;> omega)
          exact key
      · have hE1 : (takeE b k 0 1 == 0) = false := by simp [hE]
        have hE2 : (takeE b k 0 1 != 0) = true := by simp [hE]
        rw [hE1, cond_false, hE2, cond_true]
        have : pairsR b (m + 1) last k 0 acc = (acc, takeA b k 0 1, takeE b k 0 1) := by
          rw [pairsR, if_neg (by simp), if_pos hE]
        rw [this]
    · have hz : (e == 0) = false := by simp [he]
      rw [hz, cond_false]
      have : pairsR b (m + 1) last k e acc = (acc, (k : Int), e) := by rw [pairsR, if_pos he]
      rw [this]

def oneR (b : List UInt8) (a e : Int) : Prs × Int × Int :=
  pairsR b (takeV b (textA b a e 16) (textE b a e 16) 4).toNat [] (takeA b (textA b a e 16) (textE b a e 16) 4) (takeE b (textA b a e 16) (textE b a e 16) 4) []
noncomputable def v16 {ρ : Type} (K : AV → List (Nat × AO) → Nat → Option ρ) (b : List UInt8) (a e : Int) : Option ρ :=
  bif rdOk b a && gd (b.length ≤ 65536) then K (.tup [.agg [.str (textS b a e 16), .own 0], .agg [.sl .byte b, .int .i64 (oneR b a e).2.1, .int .i64 (oneR b a e).2.2]]) [(0, .row (.prod .str .str) (oneR b a e).1)] 1 else none
noncomputable def S16 : Summ := fun ρ args hp K => match args, hp with
  | [.agg [.sl .byte b, .int .i64 a, .int .i64 e]], [] => v16 K b a e
  | _, _ => none
theorem a16 {ρ : Type} {fin : ρ} (K : AV → List (Nat × AO) → Nat → Option ρ) (b : List UInt8) (a e : Int) (h : v16 K b a e = some fin) : aFun E2 ann16 pl16 (b.length + 2) Go.Proofs.Tryz.f16 [.agg [.sl .byte b, .int .i64 a, .int .i64 e]] [] 0 K = some fin := by
  obtain ⟨hg, h⟩ := bif_t h
  rw [Bool.and_eq_true] at hg
  have hb := gd_is hg.2
  obtain ⟨k, rfl, hk, hl⟩ := rdOk_is hg.1
  rw [e16, hg.1, cond_true]
  obtain ⟨j, hj, _, hjl, _⟩ := text_at b k e 16 hk
  rw [hj, rdOk_t hjl hl, rg49, ← h]
  unfold oneR
  rw [hj]
  obtain ⟨_, _, v, hv, hlt⟩ := take_is b j (textE b k e 16) 4 hjl (by omega)
  have hv : takeV b j (textE b k e 16) 4 = v := hv
  obtain ⟨i, hi, _, hil, _⟩ := take_at b j (textE b k e 16) 4 hjl (by omega)
  have hi : takeA b j (textE b k e 16) 4 = i := hi
  rw [hv, hi]
  exact l16 (b.length + 2) K b (textS b k e 16) [] 0 0 hb (b.length + 2) v i _ [] [] hil (by omega) (by simp) (by simp) (by split <;> omega)
theorem ok16 : SpecOk Go.Proofs.Tryz.prog 16 S16 := use mixed env2 Go.Proofs.Tryz.func16 (by kernel_rfl) (by
  intro ρ fin args hp K h
  unfold S16 at h
  split at h
  · exact ⟨_, _, _, a16 K _ _ _ h⟩
  · cases h)

noncomputable def L3 : List (Nat × Summ) := [(55, adapt [.imm .byte] .keep S55), (94, adapt [.imm .byte] .keep S55), (20, adapt [.imm .byte, .keep] .keep S20), (51, adapt [.imm .byte, .keep] .keep S51), (69, S69), (49, S49), (95, adapt [.imm (.prod .str .str)] .keep S95), (16, S16)] ++ L2
theorem L3_ok : ∀ p ∈ L3, SpecOk Go.Proofs.Tryz.prog p.1 p.2 :=
  oks_cons ok55 <| oks_cons ok94 <| oks_cons ok20 <| oks_cons ok51 <| oks_cons ok69 <| oks_cons ok49 <| oks_cons (adapt_ok ok95 _ _) <| oks_cons ok16 L2_ok
noncomputable def E3 : Env := ⟨tabOf 370 ttab, lookS L3⟩
theorem env3 : EnvOk Go.Proofs.Tryz.prog E3 := ⟨tabOk_ok tabTrue, lookS_ok L3_ok⟩
end Go.Ai.Dn
