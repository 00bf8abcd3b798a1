/- The fifth layer: writings of volumes. -/
import Derived.Test.YtjjobkpflphpiaaGreatAiDnJ
set_option maxRecDepth 100000
set_option linter.unusedVariables false
set_option linter.unusedSimpArgs false
namespace Go.Ai.Dn
noncomputable def ann14 : Nat → Option (List (Nat × Mode)) := lookN []
noncomputable def pl14 : Nat → Option (List (Nat × Bool) × List Nat) := lookN [(1, [(0, true), (1, true), (2, true), (3, true), (4, true), (5, true), (6, true), (7, true), (8, true), (11, true), (12, true), (9, false), (10, false), (13, true), (14, true), (15, true)], [])]
theorem e14 {ρ : Type} (fu : Nat) (K : AV → List (Nat × AO) → Nat → Option ρ) (b : List UInt8) :
    aFun E4 ann14 pl14 fu Go.Proofs.Tryz.f14 [AV.sl Ty.byte b] [] 0 K =
    bif decide ((↑(List.length b) : Int) ≥ (4 : Int)) then
  bif
      decide ((0 : Int) ≤ IntKind.wrap IntKind.i64 ((↑(List.length b) : Int) - (4 : Int))) &&
        decide (IntKind.wrap IntKind.i64 ((↑(List.length b) : Int) - (4 : Int)) ≤ (↑(List.length b) : Int)) then
    bif sg (16 : Nat) (List.take (Int.toNat (IntKind.wrap IntKind.i64 ((↑(List.length b) : Int) - (4 : Int)))) b) then
      K
        (AV.bool
          (List.take (Int.toNat (IntKind.wrap IntKind.i64 ((↑(List.length b) : Int) - (4 : Int)))) b ++
              le4
                (sumN (0 : Nat)
                  (List.take (Int.toNat (IntKind.wrap IntKind.i64 ((↑(List.length b) : Int) - (4 : Int)))) b)) ==
            b))
        [] (0 : Nat)
    else none
  else none
else K (AV.bool false) [] (0 : Nat) := by kernel_rfl
noncomputable def ann21 : Nat → Option (List (Nat × Mode)) := lookN [(4, [(18, .keep), (19, .keep), (20, .keep), (3, .keep), (4, .keep)])]
noncomputable def pl21 : Nat → Option (List (Nat × Bool) × List Nat) := lookN [(1, [(0, true), (3, true), (1, true), (4, true), (5, true), (6, true), (2, false), (7, false), (8, true)], [1]), (7, [(0, true), (3, true), (5, true), (1, true), (4, true), (6, true), (2, false), (7, false), (8, true)], [6])]
noncomputable def l21_4 {ρ : Type} (fu : Nat) (K : AV → List (Nat × AO) → Nat → Option ρ) (f4 : Nat) (x0 : List UInt8) (x1 : Int) (x2 : Int) (x3 : List (List UInt8 × List UInt8)) (x4 : List UInt8) : Option ρ :=
  loopAt E4 ann21 pl21 fu 0 Go.Proofs.Tryz.f21 [1, 1, 1, 0, 1, 0] K [] f4 (St.mk (47 : Nat)
  [((4 : Nat), AV.str x0), ((3 : Nat), AV.own (0 : Nat)), ((20 : Nat), AV.int IntKind.i64 x1),
    ((19 : Nat), AV.int IntKind.i64 x2), ((18 : Nat), AV.sl (Ty.prod Ty.str Ty.str) x3)]
  [((0 : Nat), AO.row Ty.byte x4)] (1 : Nat))
theorem e21 {ρ : Type} (fu : Nat) (K : AV → List (Nat × AO) → Nat → Option ρ) (nm : List UInt8) (l : List (List UInt8 × List UInt8)) :
    aFun E4 ann21 pl21 fu Go.Proofs.Tryz.f21 [AV.agg [AV.str nm, AV.sl (Ty.prod Ty.str Ty.str) l]] [] 0 K =
    bif sg (512 : Nat) [] && gd (List.length nm ≤ (255 : Nat)) then
  bif rg (IntKind.wrap IntKind.u32 (↑(List.length l) : Int)) (4294967296 : Nat) then
    bif sg (16 : Nat) (UInt8.ofNat (List.length nm) :: nm) then
      l21_4 fu K fu [] (0 : Int) (↑(List.length l) : Int) l
        (UInt8.ofNat (List.length nm) :: nm ++ be4 (Int.toNat (IntKind.wrap IntKind.u32 (↑(List.length l) : Int))))
    else none
  else none
else none := by kernel_rfl
theorem s21_4 {ρ : Type} (fu : Nat) (K : AV → List (Nat × AO) → Nat → Option ρ) (f4 : Nat) (x0 : List UInt8) (x1 : Int) (x2 : Int) (x3 : List (List UInt8 × List UInt8)) (x4 : List UInt8) :
    l21_4 fu K  (f4 + 1) x0 x1 x2 x3 x4 =
    bif decide (x1 < x2) then
  bif inb x1 (List.length x3) then
    bif lg x0 then
      bif
          decide
              ((0 : Int) ≤
                (↑(List.length (List.take (lcp x0 (Prod.fst (List.getD x3 (Int.toNat x1) ([], [])))) x0)) : Int)) &&
            decide
              ((↑(List.length (List.take (lcp x0 (Prod.fst (List.getD x3 (Int.toNat x1) ([], [])))) x0)) : Int) ≤
                (↑(List.length (Prod.fst (List.getD x3 (Int.toNat x1) ([], [])))) : Int)) then
        bif
            rg
              (IntKind.wrap IntKind.u8
                (↑(List.length (List.take (lcp x0 (Prod.fst (List.getD x3 (Int.toNat x1) ([], [])))) x0)) : Int))
              (256 : Nat) then
          bif sg (16 : Nat) [] then
            bif
                sg (512 : Nat)
                    [UInt8.ofNat
                        (Int.toNat
                          (IntKind.wrap IntKind.u8
                            (↑(List.length (List.take (lcp x0 (Prod.fst (List.getD x3 (Int.toNat x1) ([], [])))) x0)) :
                              Int)))] &&
                  gd
                    (List.length
                        (List.drop
                          (List.length (List.take (lcp x0 (Prod.fst (List.getD x3 (Int.toNat x1) ([], [])))) x0))
                          (List.take (List.length (Prod.fst (List.getD x3 (Int.toNat x1) ([], []))))
                            (Prod.fst (List.getD x3 (Int.toNat x1) ([], []))))) ≤
                      (255 : Nat)) then
              bif
                  sg (512 : Nat)
                      ([UInt8.ofNat
                            (Int.toNat
                              (IntKind.wrap IntKind.u8
                                (↑(List.length
                                      (List.take (lcp x0 (Prod.fst (List.getD x3 (Int.toNat x1) ([], [])))) x0)) :
                                  Int)))] ++
                        UInt8.ofNat
                            (List.length
                              (List.drop
                                (List.length (List.take (lcp x0 (Prod.fst (List.getD x3 (Int.toNat x1) ([], [])))) x0))
                                (List.take (List.length (Prod.fst (List.getD x3 (Int.toNat x1) ([], []))))
                                  (Prod.fst (List.getD x3 (Int.toNat x1) ([], [])))))) ::
                          List.drop
                            (List.length (List.take (lcp x0 (Prod.fst (List.getD x3 (Int.toNat x1) ([], [])))) x0))
                            (List.take (List.length (Prod.fst (List.getD x3 (Int.toNat x1) ([], []))))
                              (Prod.fst (List.getD x3 (Int.toNat x1) ([], []))))) &&
                    gd (List.length (Prod.snd (List.getD x3 (Int.toNat x1) ([], []))) ≤ (255 : Nat)) then
                bif
                    decide
                      (List.length x4 +
                          List.length
                            ([UInt8.ofNat
                                    (Int.toNat
                                      (IntKind.wrap IntKind.u8
                                        (↑(List.length
                                              (List.take (lcp x0 (Prod.fst (List.getD x3 (Int.toNat x1) ([], []))))
                                                x0)) :
                                          Int)))] ++
                                UInt8.ofNat
                                    (List.length
                                      (List.drop
                                        (List.length
                                          (List.take (lcp x0 (Prod.fst (List.getD x3 (Int.toNat x1) ([], [])))) x0))
                                        (List.take (List.length (Prod.fst (List.getD x3 (Int.toNat x1) ([], []))))
                                          (Prod.fst (List.getD x3 (Int.toNat x1) ([], [])))))) ::
                                  List.drop
                                    (List.length
                                      (List.take (lcp x0 (Prod.fst (List.getD x3 (Int.toNat x1) ([], [])))) x0))
                                    (List.take (List.length (Prod.fst (List.getD x3 (Int.toNat x1) ([], []))))
                                      (Prod.fst (List.getD x3 (Int.toNat x1) ([], [])))) ++
                              UInt8.ofNat (List.length (Prod.snd (List.getD x3 (Int.toNat x1) ([], [])))) ::
                                Prod.snd (List.getD x3 (Int.toNat x1) ([], []))) ≤
                        lim) then
                  l21_4 fu K f4 (Prod.fst (List.getD x3 (Int.toNat x1) ([], [])))
                    (IntKind.wrap IntKind.i64 (x1 + (1 : Int))) x2 x3
                    (x4 ++
                      ([UInt8.ofNat
                              (Int.toNat
                                (IntKind.wrap IntKind.u8
                                  (↑(List.length
                                        (List.take (lcp x0 (Prod.fst (List.getD x3 (Int.toNat x1) ([], [])))) x0)) :
                                    Int)))] ++
                          UInt8.ofNat
                              (List.length
                                (List.drop
                                  (List.length
                                    (List.take (lcp x0 (Prod.fst (List.getD x3 (Int.toNat x1) ([], [])))) x0))
                                  (List.take (List.length (Prod.fst (List.getD x3 (Int.toNat x1) ([], []))))
                                    (Prod.fst (List.getD x3 (Int.toNat x1) ([], [])))))) ::
                            List.drop
                              (List.length (List.take (lcp x0 (Prod.fst (List.getD x3 (Int.toNat x1) ([], [])))) x0))
                              (List.take (List.length (Prod.fst (List.getD x3 (Int.toNat x1) ([], []))))
                                (Prod.fst (List.getD x3 (Int.toNat x1) ([], [])))) ++
                        UInt8.ofNat (List.length (Prod.snd (List.getD x3 (Int.toNat x1) ([], [])))) ::
                          Prod.snd (List.getD x3 (Int.toNat x1) ([], []))))
                else none
              else none
            else none
          else none
        else none
      else none
    else none
  else none
else K (AV.own (0 : Nat)) [((0 : Nat), AO.row Ty.byte x4)] (1 : Nat) := by kernel_rfl
noncomputable def ann18 : Nat → Option (List (Nat × Mode)) := lookN [(5, [(0, .keep), (19, .keep), (20, .keep), (4, .keep)]), (11, [(5, .keep), (0, .keep), (19, .keep), (20, .keep), (44, .keep), (45, .keep), (4, .keep), (6, .keep)])]
noncomputable def pl18 : Nat → Option (List (Nat × Bool) × List Nat) := lookN []
noncomputable def l18_5 {ρ : Type} (fu : Nat) (K : AV → List (Nat × AO) → Nat → Option ρ) (f5 : Nat) (x0 : Int) (x1 : Int) (x2 : List (List UInt8 × List (List UInt8 × List UInt8))) (x3 : List UInt8) : Option ρ :=
  loopAt E4 ann18 pl18 fu 0 Go.Proofs.Tryz.f18 [1, 1, 1, 0, 1, 0] K [] f5 (St.mk (82 : Nat)
  [((4 : Nat), AV.own (0 : Nat)), ((20 : Nat), AV.int IntKind.i64 x0), ((19 : Nat), AV.int IntKind.i64 x1),
    ((0 : Nat), AV.sl (Ty.prod Ty.str (Ty.list (Ty.prod Ty.str Ty.str))) x2)]
  [((0 : Nat), AO.row Ty.byte x3)] (1 : Nat))
theorem e18 {ρ : Type} (fu : Nat) (K : AV → List (Nat × AO) → Nat → Option ρ) (l : List (List UInt8 × List (List UInt8 × List UInt8))) :
    aFun E4 ann18 pl18 fu Go.Proofs.Tryz.f18 [AV.sl (Ty.prod Ty.str (Ty.list (Ty.prod Ty.str Ty.str))) l] [] 0 K =
    bif gd (List.length l ≤ (65536 : Nat)) && gd (fine l) then
  bif !mayB l then
    K (AV.tup [AV.own (0 : Nat), AV.int IntKind.i64 (1 : Int)]) [((0 : Nat), AO.row Ty.byte [])] (1 : Nat)
  else
    l18_5 fu K fu (0 : Int) (↑(List.length l) : Int) l
      [UInt8.ofNat (109 : Nat), UInt8.ofNat (114 : Nat), UInt8.ofNat (99 : Nat), UInt8.ofNat (116 : Nat),
        UInt8.ofNat (Int.toNat (IntKind.wrap IntKind.u8 (↑(List.length l) : Int)))]
else none := by kernel_rfl
noncomputable def l18_11 {ρ : Type} (fu : Nat) (K : AV → List (Nat × AO) → Nat → Option ρ) (f5 : Nat) (f11 : Nat) (x0 : List UInt8) (x1 : Int) (x2 : Int) (x3 : Int) (x4 : Int) (x5 : List (List UInt8 × List (List UInt8 × List UInt8))) (x6 : Int) (x7 : List UInt8) : Option ρ :=
  loopAt E4 ann18 pl18 fu 0 Go.Proofs.Tryz.f18 [1, 1, 1, 0, 1, 0, 0, 1, 1, 0, 0, 1, 1, 1, 1, 1, 0] K [f5] f11 (St.mk (82 : Nat)
  [((6 : Nat), AV.str x0), ((4 : Nat), AV.own (0 : Nat)), ((45 : Nat), AV.int IntKind.i64 x1),
    ((44 : Nat), AV.int IntKind.i64 x2), ((20 : Nat), AV.int IntKind.i64 x3), ((19 : Nat), AV.int IntKind.i64 x4),
    ((0 : Nat), AV.sl (Ty.prod Ty.str (Ty.list (Ty.prod Ty.str Ty.str))) x5), ((5 : Nat), AV.int IntKind.i64 x6)]
  [((0 : Nat), AO.row Ty.byte x7)] (1 : Nat))
theorem s18_5 {ρ : Type} (fu : Nat) (K : AV → List (Nat × AO) → Nat → Option ρ) (f5 : Nat) (x0 : Int) (x1 : Int) (x2 : List (List UInt8 × List (List UInt8 × List UInt8))) (x3 : List UInt8) :
    l18_5 fu K  (f5 + 1) x0 x1 x2 x3 =
    bif decide (x0 < x1) then
  bif inb x0 (List.length x2) then
    bif sg (512 : Nat) x3 && gd (List.length (Prod.fst (List.getD x2 (Int.toNat x0) ([], []))) ≤ (255 : Nat)) then
      bif inb x0 (List.length x2) then
        bif
            rg (IntKind.wrap IntKind.u64 (↑(List.length (Prod.snd (List.getD x2 (Int.toNat x0) ([], [])))) : Int))
                (18446744073709551616 : Nat) &&
              rg (4 : Int) (9 : Nat) then
          bif
              sg (16 : Nat)
                (x3 ++
                  UInt8.ofNat (List.length (Prod.fst (List.getD x2 (Int.toNat x0) ([], [])))) ::
                    Prod.fst (List.getD x2 (Int.toNat x0) ([], []))) then
            bif inb x0 (List.length x2) then
              l18_11 fu K f5 fu [] (0 : Int) (↑(List.length (Prod.snd (List.getD x2 (Int.toNat x0) ([], [])))) : Int) x0
                x1 x2 x0
                (x3 ++
                    UInt8.ofNat (List.length (Prod.fst (List.getD x2 (Int.toNat x0) ([], [])))) ::
                      Prod.fst (List.getD x2 (Int.toNat x0) ([], [])) ++
                  List.drop (4 : Nat)
                    (beL (8 : Nat)
                      (Int.toNat
                        (IntKind.wrap IntKind.u64
                          (↑(List.length (Prod.snd (List.getD x2 (Int.toNat x0) ([], [])))) : Int)))
                      []))
            else none
          else none
        else none
      else none
    else none
  else none
else
  bif sg (16 : Nat) x3 then
    K (AV.tup [AV.own (0 : Nat), AV.int IntKind.i64 (0 : Int)])
      [((0 : Nat), AO.row Ty.byte (x3 ++ le4 (sumN (0 : Nat) x3)))] (1 : Nat)
  else none := by kernel_rfl
theorem s18_11 {ρ : Type} (fu : Nat) (K : AV → List (Nat × AO) → Nat → Option ρ) (f5 : Nat) (f11 : Nat) (x0 : List UInt8) (x1 : Int) (x2 : Int) (x3 : Int) (x4 : Int) (x5 : List (List UInt8 × List (List UInt8 × List UInt8))) (x6 : Int) (x7 : List UInt8) :
    l18_11 fu K f5 (f11 + 1) x0 x1 x2 x3 x4 x5 x6 x7 =
    bif decide (x1 < x2) then
  bif inb x6 (List.length x5) then
    bif inb x1 (List.length (Prod.snd (List.getD x5 (Int.toNat x6) ([], [])))) then
      bif lg x0 then
        bif decide (List.length x7 + (1 : Nat) ≤ lim) then
          bif
              decide
                  ((0 : Int) ≤
                    (↑(List.length
                          (List.take
                            (lcp x0
                              (Prod.fst
                                (List.getD (Prod.snd (List.getD x5 (Int.toNat x6) ([], []))) (Int.toNat x1) ([], []))))
                            x0)) :
                      Int)) &&
                decide
                  ((↑(List.length
                          (List.take
                            (lcp x0
                              (Prod.fst
                                (List.getD (Prod.snd (List.getD x5 (Int.toNat x6) ([], []))) (Int.toNat x1) ([], []))))
                            x0)) :
                      Int) ≤
                    (↑(List.length
                          (Prod.fst
                            (List.getD (Prod.snd (List.getD x5 (Int.toNat x6) ([], []))) (Int.toNat x1) ([], [])))) :
                      Int)) then
            bif
                sg (512 : Nat)
                    (x7 ++
                      [UInt8.ofNat
                          (Int.toNat
                            (IntKind.wrap IntKind.u8
                              (↑(List.length
                                    (List.take
                                      (lcp x0
                                        (Prod.fst
                                          (List.getD (Prod.snd (List.getD x5 (Int.toNat x6) ([], []))) (Int.toNat x1)
                                            ([], []))))
                                      x0)) :
                                Int)))]) &&
                  gd
                    (List.length
                        (List.drop
                          (List.length
                            (List.take
                              (lcp x0
                                (Prod.fst
                                  (List.getD (Prod.snd (List.getD x5 (Int.toNat x6) ([], []))) (Int.toNat x1)
                                    ([], []))))
                              x0))
                          (List.take
                            (List.length
                              (Prod.fst
                                (List.getD (Prod.snd (List.getD x5 (Int.toNat x6) ([], []))) (Int.toNat x1) ([], []))))
                            (Prod.fst
                              (List.getD (Prod.snd (List.getD x5 (Int.toNat x6) ([], []))) (Int.toNat x1) ([], []))))) ≤
                      (255 : Nat)) then
              bif
                  sg (512 : Nat)
                      (x7 ++
                          [UInt8.ofNat
                              (Int.toNat
                                (IntKind.wrap IntKind.u8
                                  (↑(List.length
                                        (List.take
                                          (lcp x0
                                            (Prod.fst
                                              (List.getD (Prod.snd (List.getD x5 (Int.toNat x6) ([], [])))
                                                (Int.toNat x1) ([], []))))
                                          x0)) :
                                    Int)))] ++
                        UInt8.ofNat
                            (List.length
                              (List.drop
                                (List.length
                                  (List.take
                                    (lcp x0
                                      (Prod.fst
                                        (List.getD (Prod.snd (List.getD x5 (Int.toNat x6) ([], []))) (Int.toNat x1)
                                          ([], []))))
                                    x0))
                                (List.take
                                  (List.length
                                    (Prod.fst
                                      (List.getD (Prod.snd (List.getD x5 (Int.toNat x6) ([], []))) (Int.toNat x1)
                                        ([], []))))
                                  (Prod.fst
                                    (List.getD (Prod.snd (List.getD x5 (Int.toNat x6) ([], []))) (Int.toNat x1)
                                      ([], [])))))) ::
                          List.drop
                            (List.length
                              (List.take
                                (lcp x0
                                  (Prod.fst
                                    (List.getD (Prod.snd (List.getD x5 (Int.toNat x6) ([], []))) (Int.toNat x1)
                                      ([], []))))
                                x0))
                            (List.take
                              (List.length
                                (Prod.fst
                                  (List.getD (Prod.snd (List.getD x5 (Int.toNat x6) ([], []))) (Int.toNat x1)
                                    ([], []))))
                              (Prod.fst
                                (List.getD (Prod.snd (List.getD x5 (Int.toNat x6) ([], []))) (Int.toNat x1)
                                  ([], []))))) &&
                    gd
                      (List.length
                          (Prod.snd
                            (List.getD (Prod.snd (List.getD x5 (Int.toNat x6) ([], []))) (Int.toNat x1) ([], []))) ≤
                        (255 : Nat)) then
                l18_11 fu K f5 f11
                  (Prod.fst (List.getD (Prod.snd (List.getD x5 (Int.toNat x6) ([], []))) (Int.toNat x1) ([], [])))
                  (IntKind.wrap IntKind.i64 (x1 + (1 : Int))) x2 x3 x4 x5 x6
                  (x7 ++
                        [UInt8.ofNat
                            (Int.toNat
                              (IntKind.wrap IntKind.u8
                                (↑(List.length
                                      (List.take
                                        (lcp x0
                                          (Prod.fst
                                            (List.getD (Prod.snd (List.getD x5 (Int.toNat x6) ([], []))) (Int.toNat x1)
                                              ([], []))))
                                        x0)) :
                                  Int)))] ++
                      UInt8.ofNat
                          (List.length
                            (List.drop
                              (List.length
                                (List.take
                                  (lcp x0
                                    (Prod.fst
                                      (List.getD (Prod.snd (List.getD x5 (Int.toNat x6) ([], []))) (Int.toNat x1)
                                        ([], []))))
                                  x0))
                              (List.take
                                (List.length
                                  (Prod.fst
                                    (List.getD (Prod.snd (List.getD x5 (Int.toNat x6) ([], []))) (Int.toNat x1)
                                      ([], []))))
                                (Prod.fst
                                  (List.getD (Prod.snd (List.getD x5 (Int.toNat x6) ([], []))) (Int.toNat x1)
                                    ([], [])))))) ::
                        List.drop
                          (List.length
                            (List.take
                              (lcp x0
                                (Prod.fst
                                  (List.getD (Prod.snd (List.getD x5 (Int.toNat x6) ([], []))) (Int.toNat x1)
                                    ([], []))))
                              x0))
                          (List.take
                            (List.length
                              (Prod.fst
                                (List.getD (Prod.snd (List.getD x5 (Int.toNat x6) ([], []))) (Int.toNat x1) ([], []))))
                            (Prod.fst
                              (List.getD (Prod.snd (List.getD x5 (Int.toNat x6) ([], []))) (Int.toNat x1) ([], [])))) ++
                    UInt8.ofNat
                        (List.length
                          (Prod.snd
                            (List.getD (Prod.snd (List.getD x5 (Int.toNat x6) ([], []))) (Int.toNat x1) ([], [])))) ::
                      Prod.snd (List.getD (Prod.snd (List.getD x5 (Int.toNat x6) ([], []))) (Int.toNat x1) ([], [])))
              else none
            else none
          else none
        else none
      else none
    else none
  else none
else l18_5 fu K f5 (IntKind.wrap IntKind.i64 (x3 + (1 : Int))) x4 x5 x7 := by kernel_rfl

theorem a14 {ρ : Type} {fin : ρ} (K : AV → List (Nat × AO) → Nat → Option ρ) (b : List UInt8) (h : v27 K b = some fin) : aFun E4 ann14 pl14 9 Go.Proofs.Tryz.f14 [.sl .byte b] [] 0 K = some fin := by
  obtain ⟨hg, h⟩ := bif_t h
  have hb := gd_is hg
  rw [e14, wrap_i64 (n := (b.length : Int) - 4) (by omega) (by omega), ← h]
  by_cases h4 : 4 ≤ b.length
  · have h1 : decide ((b.length : Int) ≥ 4) = true := decide_eq_true (by omega)
    have h2 : (decide ((0 : Int) ≤ (b.length : Int) - 4) && decide ((b.length : Int) - 4 ≤ (b.length : Int))) = true := by simp; omega
    have h3 : ((b.length : Int) - 4).toNat = b.length - 4 := by omega
    rw [h2, h1, h3, sg_t (by rw [List.length_take]; omega)]
    simp only [cond_true]
    congr 2
    unfold fitsB
    rw [decide_eq_true h4, Bool.true_and, Bool.eq_iff_iff, beq_iff_eq, beq_iff_eq]
    generalize le4 (sumN 0 (b.take (b.length - 4))) = x
    constructor
    · intro e
      have e2 : b.take (b.length - 4) ++ x = b.take (b.length - 4) ++ b.drop (b.length - 4) := by rw [List.take_append_drop]; exact e
      exact List.append_cancel_left e2
    · intro e
      rw [e, List.take_append_drop]
  · have h1 : decide ((b.length : Int) ≥ 4) = false := decide_eq_false (by omega)
    have : fitsB b = false := by unfold fitsB; rw [decide_eq_false h4, Bool.false_and]
    rw [h1, cond_false, this]
theorem ok14 : SpecOk Go.Proofs.Tryz.prog 14 S27 := use mixed env4 Go.Proofs.Tryz.func14 (by kernel_rfl) (by
  intro ρ fin args hp K h
  unfold S27 at h
  split at h
  · exact ⟨_, _, _, a14 K _ h⟩
  · cases h)

/-! Writings. -/
def wrPair (last : List UInt8) (p : List UInt8 × List UInt8) : List UInt8 :=
  UInt8.ofNat (lcp last p.1) :: UInt8.ofNat (p.1.length - lcp last p.1) :: (p.1.drop (lcp last p.1) ++ UInt8.ofNat p.2.length :: p.2)
def wrPairs : List UInt8 → Prs → List UInt8
  | _, [] => []
  | last, p :: r => wrPair last p ++ wrPairs p.1 r
def wrOne (v : List UInt8 × Prs) : List UInt8 := UInt8.ofNat v.1.length :: (v.1 ++ (be4 v.2.length ++ wrPairs [] v.2))
def wrAll : Vols → List UInt8
  | [] => []
  | v :: r => wrOne v ++ wrAll r
theorem wrPair_len (last : List UInt8) (p : List UInt8 × List UInt8) (h1 : p.1.length ≤ 16) (h2 : p.2.length ≤ 32) : (wrPair last p).length ≤ 51 := by
  unfold wrPair; simp; omega
theorem wrPairs_len : ∀ (l : Prs) (last : List UInt8), small l → (wrPairs last l).length ≤ 51 * l.length
  | [], _, _ => by simp [wrPairs]
  | p :: r, last, h => by
    have h1 := h p (by simp)
    have := wrPair_len last p h1.1 h1.2
    have := wrPairs_len r p.1 (fun q hq => h q (by simp [hq]))
    simp [wrPairs]; omega

theorem l21 {ρ : Type} (fu : Nat) (K : AV → List (Nat × AO) → Nat → Option ρ) (l : Prs) (hl : l.length ≤ 65536) (hs : small l) : ∀ (f k : Nat) (last acc : List UInt8), l.length + 1 ≤ k + f → k ≤ l.length → last.length ≤ 16 → acc.length ≤ 1000 + 51 * k →
    l21_4 fu K f last (k : Int) (l.length : Int) l acc = K (.own 0) [(0, .row .byte (acc ++ wrPairs last (l.drop k)))] 1 ∨ f = 0
  | 0, _, _, _, _, _, _, _ => .inr rfl
  | f + 1, k, last, acc, hf, hk, hla, hac => by
    left
    rw [s21_4]
    by_cases h : k < l.length
    · have h1 : decide ((k : Int) < (l.length : Int)) = true := decide_eq_true (by omega)
      have hsk := hs l[k] (List.getElem_mem h)
      have hc := lcp_le last l[k].1
      have eT : (last.take (lcp last l[k].1)).length = lcp last l[k].1 := by rw [List.length_take]; omega
      have h2 : (decide ((0 : Int) ≤ ((lcp last l[k].1 : Nat) : Int)) && decide (((lcp last l[k].1 : Nat) : Int) ≤ ((l[k].1.length : Nat) : Int))) = true := by simp; omega
      have eD : (l[k].1.drop (lcp last l[k].1)).length = l[k].1.length - lcp last l[k].1 := List.length_drop
      rw [h1, cond_true, inb_nat h, cond_true, lg_t (by omega), cond_true, Int.toNat_natCast, getD_of h, eT, h2, cond_true, wrap_u8 (n := ((lcp last l[k].1 : Nat) : Int)) (by omega) (by omega), rg_t (by omega), cond_true, sg_t (by simp), cond_true, Int.toNat_natCast, List.take_length, eD,
        sg_t (by simp), gd_t (show l[k].1.length - lcp last l[k].1 ≤ 255 by omega), Bool.and_self, cond_true, sg_t (by simp; omega), gd_t (show l[k].2.length ≤ 255 by omega), Bool.and_self, cond_true, lim_t (by simp; omega), cond_true, wrap_i64 (n := (k : Int) + 1) (by omega) (by omega)]
      have e1 : l.drop k = l[k] :: l.drop (k + 1) := List.drop_eq_getElem_cons h
      have e2 : ([UInt8.ofNat (lcp last l[k].1)] ++ UInt8.ofNat (l[k].1.length - lcp last l[k].1) :: l[k].1.drop (lcp last l[k].1) ++ UInt8.ofNat l[k].2.length :: l[k].2) = wrPair last l[k] := by
        unfold wrPair; simp
      rw [e2]
      have hwl := wrPair_len last l[k] hsk.1 hsk.2
      rcases l21 fu K l hl hs f (k + 1) l[k].1 (acc ++ wrPair last l[k]) (by omega) (by omega) hsk.1 (by rw [List.length_append]; omega) with h3 | h3
      · rw [show ((k : Int) + 1) = ((k + 1 : Nat) : Int) by omega, h3, e1]
        rw [wrPairs, List.append_assoc]
      · omega
    · have h1 : decide ((k : Int) < (l.length : Int)) = false := decide_eq_false (by omega)
      rw [h1, cond_false, List.drop_eq_nil_of_le (by omega), wrPairs, List.append_nil]
noncomputable def v21 {ρ : Type} (K : AV → List (Nat × AO) → Nat → Option ρ) (nm : List UInt8) (l : Prs) : Option ρ := bif gd (nm.length ≤ 16) && (gd (l.length ≤ 65536) && gd (small l)) then K (.own 0) [(0, .row .byte (wrOne (nm, l)))] 1 else none
noncomputable def S21 : Summ := fun ρ args hp K => match args, hp with
  | [.agg [.str nm, .sl (.prod .str .str) l]], [] => v21 K nm l
  | _, _ => none
theorem a21 {ρ : Type} {fin : ρ} (K : AV → List (Nat × AO) → Nat → Option ρ) (nm : List UInt8) (l : Prs) (h : v21 K nm l = some fin) : aFun E4 ann21 pl21 (l.length + 1) Go.Proofs.Tryz.f21 [.agg [.str nm, .sl (.prod .str .str) l]] [] 0 K = some fin := by
  obtain ⟨hg, h⟩ := bif_t h
  rw [Bool.and_eq_true, Bool.and_eq_true] at hg
  have hn := gd_is hg.1
  have hl := gd_is hg.2.1
  rw [e21, sg_t (by simp), gd_t (show nm.length ≤ 255 by omega), Bool.and_self, cond_true, wrap_u32 (n := ((l.length : Nat) : Int)) (by omega) (by omega), rg_t (by omega), cond_true, sg_t (by simp; omega), cond_true, Int.toNat_natCast, ← h]
  rcases l21 (l.length + 1) K l hl (gd_is hg.2.2) (l.length + 1) 0 [] (UInt8.ofNat nm.length :: nm ++ be4 l.length) (by omega) (by omega) (by simp) (by simp [be4]; omega) with h3 | h3
  · refine Eq.trans h3 ?_
    rw [List.drop_zero]
    unfold wrOne
    simp
  · omega
theorem ok21 : SpecOk Go.Proofs.Tryz.prog 21 S21 := use mixed env4 Go.Proofs.Tryz.func21 (by kernel_rfl) (by
  intro ρ fin args hp K h
  unfold S21 at h
  split at h
  · exact ⟨_, _, _, a21 K _ _ h⟩
  · cases h)

theorem l18i {ρ : Type} (fu : Nat) (K : AV → List (Nat × AO) → Nat → Option ρ) (f5 : Nat) (n : Int) (l : Vols) (i : Nat) (hi : i < l.length) (hl : l[i].2.length ≤ 65536) (hs : small l[i].2) : ∀ (f k : Nat) (last acc : List UInt8), l[i].2.length + 1 ≤ k + f → k ≤ l[i].2.length → last.length ≤ 16 → acc.length ≤ 1000000000 + 51 * k →
    l18_11 fu K f5 f last (k : Int) (l[i].2.length : Int) (i : Int) n l (i : Int) acc = l18_5 fu K f5 (IntKind.wrap .i64 ((i : Int) + 1)) n l (acc ++ wrPairs last (l[i].2.drop k)) ∨ f = 0
  | 0, _, _, _, _, _, _, _ => .inr rfl
  | f + 1, k, last, acc, hf, hk, hla, hac => by
    left
    rw [s18_11]
    by_cases h : k < l[i].2.length
    · have h1 : decide ((k : Int) < ((l[i].2.length : Nat) : Int)) = true := decide_eq_true (by omega)
      have hsk := hs l[i].2[k] (List.getElem_mem h)
      have hc := lcp_le last l[i].2[k].1
      have eT : (last.take (lcp last l[i].2[k].1)).length = lcp last l[i].2[k].1 := by rw [List.length_take]; omega
      have h2 : (decide ((0 : Int) ≤ ((lcp last l[i].2[k].1 : Nat) : Int)) && decide (((lcp last l[i].2[k].1 : Nat) : Int) ≤ ((l[i].2[k].1.length : Nat) : Int))) = true := by simp; omega
      have eD : (l[i].2[k].1.drop (lcp last l[i].2[k].1)).length = l[i].2[k].1.length - lcp last l[i].2[k].1 := List.length_drop
      rw [h1, cond_true, inb_nat hi, cond_true, Int.toNat_natCast, getD_of hi, inb_nat h, cond_true, lg_t (by omega), cond_true, lim_t (by omega), cond_true, Int.toNat_natCast, getD_of h, eT, h2, cond_true, wrap_u8 (n := ((lcp last l[i].2[k].1 : Nat) : Int)) (by omega) (by omega), Int.toNat_natCast, List.take_length, eD,
        sg_t (by simp; omega), gd_t (show l[i].2[k].1.length - lcp last l[i].2[k].1 ≤ 255 by omega), Bool.and_self, cond_true, sg_t (by simp; omega), gd_t (show l[i].2[k].2.length ≤ 255 by omega), Bool.and_self, cond_true, wrap_i64 (n := (k : Int) + 1) (by omega) (by omega)]
      have e1 : l[i].2.drop k = l[i].2[k] :: l[i].2.drop (k + 1) := List.drop_eq_getElem_cons h
      have e2 : (acc ++ [UInt8.ofNat (lcp last l[i].2[k].1)] ++ UInt8.ofNat (l[i].2[k].1.length - lcp last l[i].2[k].1) :: l[i].2[k].1.drop (lcp last l[i].2[k].1) ++ UInt8.ofNat l[i].2[k].2.length :: l[i].2[k].2) = acc ++ wrPair last l[i].2[k] := by
        unfold wrPair; simp
      rw [e2]
      have hwl := wrPair_len last l[i].2[k] hsk.1 hsk.2
      rcases l18i fu K f5 n l i hi hl hs f (k + 1) l[i].2[k].1 (acc ++ wrPair last l[i].2[k]) (by omega) (by omega) hsk.1 (by rw [List.length_append]; omega) with h3 | h3
      · rw [show ((k : Int) + 1) = ((k + 1 : Nat) : Int) by omega, h3, e1]
        rw [wrPairs, List.append_assoc]
      · omega
    · have h1 : decide ((k : Int) < ((l[i].2.length : Nat) : Int)) = false := decide_eq_false (by omega)
      rw [h1, cond_false, List.drop_eq_nil_of_le (by omega), wrPairs, List.append_nil]

theorem wrOne_len (v : List UInt8 × Prs) (h1 : v.1.length ≤ 16) (h2 : v.2.length ≤ 65536) (h3 : small v.2) : (wrOne v).length ≤ 4000000 := by
  have := wrPairs_len v.2 [] h3
  unfold wrOne; simp [be4]; omega

theorem l18 {ρ : Type} (fu : Nat) (hfu : 65537 ≤ fu) (K : AV → List (Nat × AO) → Nat → Option ρ) (l : Vols) (hl : l.length ≤ 16) (hs : fine l) (hn : ∀ v ∈ l, v.1.length ≤ 16) : ∀ (f k : Nat) (acc : List UInt8), l.length + 1 ≤ k + f → k ≤ l.length → acc.length ≤ 1000 + 4000000 * k →
    l18_5 fu K f (k : Int) (l.length : Int) l acc = K (.tup [.own 0, .int .i64 0]) [(0, .row .byte ((acc ++ wrAll (l.drop k)) ++ le4 (sumN 0 (acc ++ wrAll (l.drop k)))))] 1 ∨ f = 0
  | 0, _, _, _, _, _ => .inr rfl
  | f + 1, k, acc, hf, hk, hac => by
    left
    rw [s18_5]
    by_cases h : k < l.length
    · have h1 : decide ((k : Int) < (l.length : Int)) = true := decide_eq_true (by omega)
      obtain ⟨g1, g2⟩ := hs l[k] (List.getElem_mem h)
      have g3 := hn l[k] (List.getElem_mem h)
      have hb4 : (beL 8 l[k].2.length []).drop 4 = be4 l[k].2.length := by
        show [_, _, _, _] = _
        unfold be4
        simp only [Nat.div_div_eq_div_mul]
      rw [h1, cond_true, inb_nat h, cond_true, Int.toNat_natCast, getD_of h, sg_t (by omega), gd_t (show l[k].1.length ≤ 255 by omega), Bool.and_self, cond_true, cond_true, wrap_u64 (n := ((l[k].2.length : Nat) : Int)) (by omega) (by omega), rg_t (by omega), rg49, Bool.and_self, cond_true, sg_t (by simp; omega), cond_true, cond_true, Int.toNat_natCast, hb4]
      have hwl := wrOne_len l[k] g3 g1 g2
      rcases l18i fu K f (l.length : Int) l k h g1 g2 fu 0 [] (acc ++ UInt8.ofNat l[k].1.length :: l[k].1 ++ be4 l[k].2.length) (by omega) (by omega) (by simp) (by simp [be4]; omega) with h2 | h2
      · refine Eq.trans h2 ?_
        have e2 : (acc ++ UInt8.ofNat l[k].1.length :: l[k].1 ++ be4 l[k].2.length) ++ wrPairs [] (l[k].2.drop 0) = acc ++ wrOne l[k] := by
          unfold wrOne; simp
        have e1 : l.drop k = l[k] :: l.drop (k + 1) := List.drop_eq_getElem_cons h
        rw [e2, wrap_i64 (by omega) (by omega)]
        rcases l18 fu hfu K l hl hs hn f (k + 1) (acc ++ wrOne l[k]) (by omega) (by omega) (by rw [List.length_append]; omega) with h3 | h3
        · rw [show ((k : Int) + 1) = ((k + 1 : Nat) : Int) by omega, h3, e1]
          rw [wrAll, ← List.append_assoc acc]
        · omega
      · omega
    · have h1 : decide ((k : Int) < (l.length : Int)) = false := decide_eq_false (by omega)
      rw [h1, cond_false, sg_t (by omega), List.drop_eq_nil_of_le (by omega), wrAll, List.append_nil]
      rfl

def bodyB (l : Vols) : List UInt8 := [109, 114, 99, 116, UInt8.ofNat l.length] ++ wrAll l
def putB (l : Vols) : List UInt8 := bodyB l ++ le4 (sumN 0 (bodyB l))
theorem mayF_names : ∀ (l : Vols) (last : List UInt8), mayF last l = true → ∀ v ∈ l, v.1.length ≤ 16
  | [], _, _, v, hv => by cases hv
  | x :: r, last, h, v, hv => by
    simp only [mayF, Bool.and_eq_true, nameB, decide_eq_true_eq] at h
    rcases List.mem_cons.1 hv with rfl | hv
    · exact h.1.1.2
    · exact mayF_names r _ h.2 v hv
theorem may_is {l : Vols} (h : mayB l = true) : l.length ≤ 16 ∧ ∀ v ∈ l, v.1.length ≤ 16 := by
  unfold mayB at h
  simp only [Bool.and_eq_true, decide_eq_true_eq] at h
  exact ⟨h.2, mayF_names l [] h.1⟩
noncomputable def v18 {ρ : Type} (K : AV → List (Nat × AO) → Nat → Option ρ) (l : Vols) : Option ρ :=
  bif gd (l.length ≤ 65536) && gd (fine l) then (bif mayB l then K (.tup [.own 0, .int .i64 0]) [(0, .row .byte (putB l))] 1 else K (.tup [.own 0, .int .i64 1]) [(0, .row .byte [])] 1) else none
noncomputable def S18 : Summ := fun ρ args hp K => match args, hp with
  | [.sl (.prod .str (.list (.prod .str .str))) l], [] => v18 K l
  | _, _ => none
theorem a18 {ρ : Type} {fin : ρ} (K : AV → List (Nat × AO) → Nat → Option ρ) (l : Vols) (h : v18 K l = some fin) : aFun E4 ann18 pl18 65537 Go.Proofs.Tryz.f18 [.sl (.prod .str (.list (.prod .str .str))) l] [] 0 K = some fin := by
  obtain ⟨hg, h⟩ := bif_t h
  rw [e18, hg, cond_true, ← h]
  rw [Bool.and_eq_true] at hg
  cases hm : mayB l
  · rfl
  · obtain ⟨h16, hn⟩ := may_is hm
    rw [wrap_u8 (n := ((l.length : Nat) : Int)) (by omega) (by omega), Int.toNat_natCast]
    rcases l18 65537 (by omega) K l h16 (gd_is hg.2) hn 65537 0 [109, 114, 99, 116, UInt8.ofNat l.length] (by omega) (by omega) (by simp) with h3 | h3
    · exact h3
    · omega
theorem ok18 : SpecOk Go.Proofs.Tryz.prog 18 (adapt [.imm (.prod .str (.list (.prod .str .str)))] .keep S18) := adapt_ok (use mixed env4 Go.Proofs.Tryz.func18 (by kernel_rfl) (by
  intro ρ fin args hp K h
  unfold S18 at h
  split at h
  · exact ⟨_, _, _, a18 K _ h⟩
  · cases h)) _ _

noncomputable def L5 : List (Nat × Summ) := [(14, S27), (21, S21), (18, adapt [.imm (.prod .str (.list (.prod .str .str)))] .keep S18)] ++ L4
theorem L5_ok : ∀ p ∈ L5, SpecOk Go.Proofs.Tryz.prog p.1 p.2 := oks_cons ok14 <| oks_cons ok21 <| oks_cons ok18 L4_ok
noncomputable def E5 : Env := ⟨tabOf 370 ttab, lookS L5⟩
theorem env5 : EnvOk Go.Proofs.Tryz.prog E5 := ⟨tabOk_ok tabTrue, lookS_ok L5_ok⟩
end Go.Ai.Dn
