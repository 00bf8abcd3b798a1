/- The fourth layer: texts, marks, volumes. -/
import Derived.Test.YtjjobkpflphpiaaGreatAiDnI
set_option maxRecDepth 100000
set_option linter.unusedVariables false
set_option linter.unusedSimpArgs false
namespace Go.Ai.Dn
noncomputable def ann52 : Nat → Option (List (Nat × Mode)) := lookN []
noncomputable def pl52 : Nat → Option (List (Nat × Bool) × List Nat) := lookN []
theorem e52 {ρ : Type} (fu : Nat) (K : AV → List (Nat × AO) → Nat → Option ρ) (b : List UInt8) (s : List UInt8) :
    aFun E3 ann52 pl52 fu Go.Proofs.Tryz.f52 [AV.sl Ty.byte b, AV.str s] [] 0 K =
    bif
    decide ((0 : Int) ≤ if (255 : Int) < (↑(List.length s) : Int) then (255 : Int) else (↑(List.length s) : Int)) &&
      decide
        ((if (255 : Int) < (↑(List.length s) : Int) then (255 : Int) else (↑(List.length s) : Int)) ≤
          (↑(List.length s) : Int)) then
  bif
      rg
        (IntKind.wrap IntKind.u8
          (↑(List.length
                (List.take
                  (Int.toNat (if (255 : Int) < (↑(List.length s) : Int) then (255 : Int) else (↑(List.length s) : Int)))
                  s)) :
            Int))
        (256 : Nat) then
    bif sg (16 : Nat) b then
      bif
          decide
            (List.length
                  (b ++
                    [UInt8.ofNat
                        (Int.toNat
                          (IntKind.wrap IntKind.u8
                            (↑(List.length
                                  (List.take
                                    (Int.toNat
                                      (if (255 : Int) < (↑(List.length s) : Int) then (255 : Int)
                                      else (↑(List.length s) : Int)))
                                    s)) :
                              Int)))]) +
                List.length
                  (List.take
                    (Int.toNat
                      (if (255 : Int) < (↑(List.length s) : Int) then (255 : Int) else (↑(List.length s) : Int)))
                    s) ≤
              lim) then
        K (AV.own (0 : Nat))
          [((0 : Nat),
              AO.row Ty.byte
                (b ++
                    [UInt8.ofNat
                        (Int.toNat
                          (IntKind.wrap IntKind.u8
                            (↑(List.length
                                  (List.take
                                    (Int.toNat
                                      (if (255 : Int) < (↑(List.length s) : Int) then (255 : Int)
                                      else (↑(List.length s) : Int)))
                                    s)) :
                              Int)))] ++
                  List.take
                    (Int.toNat
                      (if (255 : Int) < (↑(List.length s) : Int) then (255 : Int) else (↑(List.length s) : Int)))
                    s))]
          (1 : Nat)
      else none
    else none
  else none
else none := by kernel_rfl
noncomputable def ann46 : Nat → Option (List (Nat × Mode)) := lookN []
noncomputable def pl46 : Nat → Option (List (Nat × Bool) × List Nat) := lookN []
theorem e46 {ρ : Type} (fu : Nat) (K : AV → List (Nat × AO) → Nat → Option ρ) (b : List UInt8) (s : List UInt8) :
    aFun E3 ann46 pl46 fu Go.Proofs.Tryz.f46 [AV.sl Ty.byte b, AV.str s] [] 0 K =
    bif decide ((↑(List.length s) : Int) > (255 : Int)) then
  bif decide ((255 : Int) ≤ (↑(List.length s) : Int)) then
    bif
        rg (IntKind.wrap IntKind.u64 (↑(List.length (List.take (255 : Nat) s)) : Int)) (18446744073709551616 : Nat) &&
          rg (1 : Int) (9 : Nat) then
      bif sg (16 : Nat) b then
        bif
            decide
              (List.length
                    (b ++
                      List.drop (7 : Nat)
                        (beL (8 : Nat)
                          (Int.toNat (IntKind.wrap IntKind.u64 (↑(List.length (List.take (255 : Nat) s)) : Int))) [])) +
                  List.length (List.take (255 : Nat) s) ≤
                lim) then
          K (AV.own (0 : Nat))
            [((0 : Nat),
                AO.row Ty.byte
                  (b ++
                      List.drop (7 : Nat)
                        (beL (8 : Nat)
                          (Int.toNat (IntKind.wrap IntKind.u64 (↑(List.length (List.take (255 : Nat) s)) : Int))) []) ++
                    List.take (255 : Nat) s))]
            (1 : Nat)
        else none
      else none
    else none
  else none
else
  bif rg (IntKind.wrap IntKind.u64 (↑(List.length s) : Int)) (18446744073709551616 : Nat) && rg (1 : Int) (9 : Nat) then
    bif sg (16 : Nat) b then
      bif
          decide
            (List.length
                  (b ++
                    List.drop (7 : Nat)
                      (beL (8 : Nat) (Int.toNat (IntKind.wrap IntKind.u64 (↑(List.length s) : Int))) [])) +
                List.length s ≤
              lim) then
        K (AV.own (0 : Nat))
          [((0 : Nat),
              AO.row Ty.byte
                (b ++
                    List.drop (7 : Nat)
                      (beL (8 : Nat) (Int.toNat (IntKind.wrap IntKind.u64 (↑(List.length s) : Int))) []) ++
                  s))]
          (1 : Nat)
      else none
    else none
  else none := by kernel_rfl
noncomputable def ann22 : Nat → Option (List (Nat × Mode)) := lookN []
noncomputable def pl22 : Nat → Option (List (Nat × Bool) × List Nat) := lookN [(3, [(0, true), (1, true), (3, true), (2, false), (4, false), (5, true)], [])]
theorem e22 {ρ : Type} (fu : Nat) (K : AV → List (Nat × AO) → Nat → Option ρ) (b : List UInt8) :
    aFun E3 ann22 pl22 fu Go.Proofs.Tryz.f22 [AV.sl Ty.byte b] [] 0 K =
    bif lg b then
  bif rg (↑(sumN (0 : Nat) b) : Int) (4294967296 : Nat) then
    bif
        decide ((0 : Int) ≤ IntKind.wrap IntKind.i64 ((↑(List.length b) : Int) + (4 : Int))) &&
          decide (IntKind.wrap IntKind.i64 ((↑(List.length b) : Int) + (4 : Int)) ≤ (↑lim : Int)) then
      bif decide (List.length (List.replicate (0 : Nat) (0 : UInt8)) + List.length b ≤ lim) then
        bif
            decide
              (List.length (List.replicate (0 : Nat) (0 : UInt8) ++ b) +
                  List.length
                    [UInt8.ofNat (sumN (0 : Nat) b % (256 : Nat)),
                      UInt8.ofNat (sumN (0 : Nat) b / (256 : Nat) % (256 : Nat)),
                      UInt8.ofNat (sumN (0 : Nat) b / (65536 : Nat) % (256 : Nat)),
                      UInt8.ofNat (sumN (0 : Nat) b / (16777216 : Nat) % (256 : Nat))] ≤
                lim) then
          K (AV.own (0 : Nat))
            [((0 : Nat),
                AO.row Ty.byte
                  (List.replicate (0 : Nat) (0 : UInt8) ++ b ++
                    [UInt8.ofNat (sumN (0 : Nat) b % (256 : Nat)),
                      UInt8.ofNat (sumN (0 : Nat) b / (256 : Nat) % (256 : Nat)),
                      UInt8.ofNat (sumN (0 : Nat) b / (65536 : Nat) % (256 : Nat)),
                      UInt8.ofNat (sumN (0 : Nat) b / (16777216 : Nat) % (256 : Nat))]))]
            (1 : Nat)
        else none
      else none
    else none
  else none
else none := by kernel_rfl
noncomputable def ann27 : Nat → Option (List (Nat × Mode)) := lookN []
noncomputable def pl27 : Nat → Option (List (Nat × Bool) × List Nat) := lookN [(2, [(0, true), (1, true), (2, true), (3, true), (4, true), (5, true), (8, true), (9, true), (10, true), (11, true), (12, true), (6, false), (7, false), (13, true), (14, true), (15, true)], [18])]
theorem e27 {ρ : Type} (fu : Nat) (K : AV → List (Nat × AO) → Nat → Option ρ) (b : List UInt8) :
    aFun E3 ann27 pl27 fu Go.Proofs.Tryz.f27 [AV.sl Ty.byte b] [] 0 K =
    bif decide (IntKind.wrap IntKind.i64 ((↑(List.length b) : Int) - (4 : Int)) ≥ (0 : Int)) then
  bif
      decide ((0 : Int) ≤ IntKind.wrap IntKind.i64 ((↑(List.length b) : Int) - (4 : Int))) &&
        decide (IntKind.wrap IntKind.i64 ((↑(List.length b) : Int) - (4 : Int)) ≤ (↑(List.length b) : Int)) then
    bif
        decide ((0 : Int) ≤ IntKind.wrap IntKind.i64 ((↑(List.length b) : Int) - (4 : Int))) &&
          decide (IntKind.wrap IntKind.i64 ((↑(List.length b) : Int) - (4 : Int)) ≤ (↑(List.length b) : Int)) then
      bif
          Nat.ble (4 : Nat)
              (List.length
                (List.drop (Int.toNat (IntKind.wrap IntKind.i64 ((↑(List.length b) : Int) - (4 : Int))))
                  (List.take (List.length b) b))) &&
            true then
        bif lg (List.take (Int.toNat (IntKind.wrap IntKind.i64 ((↑(List.length b) : Int) - (4 : Int)))) b) then
          bif
              rg
                (↑(sumN (0 : Nat)
                      (List.take (Int.toNat (IntKind.wrap IntKind.i64 ((↑(List.length b) : Int) - (4 : Int)))) b)) :
                  Int)
                (4294967296 : Nat) then
            K
              (AV.bool
                (bif
                    (↑(sumN (0 : Nat)
                              (List.take (Int.toNat (IntKind.wrap IntKind.i64 ((↑(List.length b) : Int) - (4 : Int))))
                                b) %
                            (256 : Nat)) :
                        Int) ==
                      (↑(UInt8.toNat
                            (List.getD
                              (List.drop (Int.toNat (IntKind.wrap IntKind.i64 ((↑(List.length b) : Int) - (4 : Int))))
                                (List.take (List.length b) b))
                              (0 : Nat) (0 : UInt8))) :
                        Int) then
                  bif
                      (↑(sumN (0 : Nat)
                                  (List.take
                                    (Int.toNat (IntKind.wrap IntKind.i64 ((↑(List.length b) : Int) - (4 : Int)))) b) /
                                (256 : Nat) %
                              (256 : Nat)) :
                          Int) ==
                        (↑(UInt8.toNat
                              (List.getD
                                (List.drop (Int.toNat (IntKind.wrap IntKind.i64 ((↑(List.length b) : Int) - (4 : Int))))
                                  (List.take (List.length b) b))
                                (1 : Nat) (0 : UInt8))) :
                          Int) then
                    bif
                        (↑(sumN (0 : Nat)
                                    (List.take
                                      (Int.toNat (IntKind.wrap IntKind.i64 ((↑(List.length b) : Int) - (4 : Int)))) b) /
                                  (65536 : Nat) %
                                (256 : Nat)) :
                            Int) ==
                          (↑(UInt8.toNat
                                (List.getD
                                  (List.drop
                                    (Int.toNat (IntKind.wrap IntKind.i64 ((↑(List.length b) : Int) - (4 : Int))))
                                    (List.take (List.length b) b))
                                  (2 : Nat) (0 : UInt8))) :
                            Int) then
                      bif
                          (↑(sumN (0 : Nat)
                                      (List.take
                                        (Int.toNat (IntKind.wrap IntKind.i64 ((↑(List.length b) : Int) - (4 : Int))))
                                        b) /
                                    (16777216 : Nat) %
                                  (256 : Nat)) :
                              Int) ==
                            (↑(UInt8.toNat
                                  (List.getD
                                    (List.drop
                                      (Int.toNat (IntKind.wrap IntKind.i64 ((↑(List.length b) : Int) - (4 : Int))))
                                      (List.take (List.length b) b))
                                    (3 : Nat) (0 : UInt8))) :
                              Int) then
                        true
                      else false
                    else false
                  else false
                else false))
              [] (0 : Nat)
          else none
        else none
      else none
    else none
  else none
else K (AV.bool false) [] (0 : Nat) := by kernel_rfl
noncomputable def ann43 : Nat → Option (List (Nat × Mode)) := lookN []
noncomputable def pl43 : Nat → Option (List (Nat × Bool) × List Nat) := lookN []
theorem e43 {ρ : Type} (fu : Nat) (K : AV → List (Nat × AO) → Nat → Option ρ) (b : List UInt8) :
    aFun E3 ann43 pl43 6 Go.Proofs.Tryz.f43 [AV.sl Ty.byte b] [] 0 K =
    bif decide ((0 : Nat) + List.length b ≤ lim) then
  bif lg b then
    bif decide (List.length b + (1 : Nat) ≤ lim) then
      bif
          decide
            (List.length
                  (b ++
                    [UInt8.ofNat
                        (Int.toNat (IntKind.wrap IntKind.u8 (Int.tmod (↑(sumN (0 : Nat) b) : Int) (256 : Int))))]) +
                (1 : Nat) ≤
              lim) then
        bif
            decide
              (List.length
                    (b ++
                        [UInt8.ofNat
                            (Int.toNat (IntKind.wrap IntKind.u8 (Int.tmod (↑(sumN (0 : Nat) b) : Int) (256 : Int))))] ++
                      [UInt8.ofNat
                          (Int.toNat
                            (IntKind.wrap IntKind.u8
                              (Int.tmod (IntKind.wrap IntKind.u32 (Int.tdiv (↑(sumN (0 : Nat) b) : Int) (256 : Int)))
                                (256 : Int))))]) +
                  (1 : Nat) ≤
                lim) then
          bif
              decide
                (List.length
                      (b ++
                            [UInt8.ofNat
                                (Int.toNat
                                  (IntKind.wrap IntKind.u8 (Int.tmod (↑(sumN (0 : Nat) b) : Int) (256 : Int))))] ++
                          [UInt8.ofNat
                              (Int.toNat
                                (IntKind.wrap IntKind.u8
                                  (Int.tmod
                                    (IntKind.wrap IntKind.u32 (Int.tdiv (↑(sumN (0 : Nat) b) : Int) (256 : Int)))
                                    (256 : Int))))] ++
                        [UInt8.ofNat
                            (Int.toNat
                              (IntKind.wrap IntKind.u8
                                (Int.tmod
                                  (IntKind.wrap IntKind.u32
                                    (Int.tdiv
                                      (IntKind.wrap IntKind.u32 (Int.tdiv (↑(sumN (0 : Nat) b) : Int) (256 : Int)))
                                      (256 : Int)))
                                  (256 : Int))))]) +
                    (1 : Nat) ≤
                  lim) then
            K (AV.own (0 : Nat))
              [((0 : Nat),
                  AO.row Ty.byte
                    (b ++
                            [UInt8.ofNat
                                (Int.toNat
                                  (IntKind.wrap IntKind.u8 (Int.tmod (↑(sumN (0 : Nat) b) : Int) (256 : Int))))] ++
                          [UInt8.ofNat
                              (Int.toNat
                                (IntKind.wrap IntKind.u8
                                  (Int.tmod
                                    (IntKind.wrap IntKind.u32 (Int.tdiv (↑(sumN (0 : Nat) b) : Int) (256 : Int)))
                                    (256 : Int))))] ++
                        [UInt8.ofNat
                            (Int.toNat
                              (IntKind.wrap IntKind.u8
                                (Int.tmod
                                  (IntKind.wrap IntKind.u32
                                    (Int.tdiv
                                      (IntKind.wrap IntKind.u32 (Int.tdiv (↑(sumN (0 : Nat) b) : Int) (256 : Int)))
                                      (256 : Int)))
                                  (256 : Int))))] ++
                      [UInt8.ofNat
                          (Int.toNat
                            (IntKind.wrap IntKind.u8
                              (Int.tmod
                                (IntKind.wrap IntKind.u32
                                  (Int.tdiv
                                    (IntKind.wrap IntKind.u32
                                      (Int.tdiv
                                        (IntKind.wrap IntKind.u32 (Int.tdiv (↑(sumN (0 : Nat) b) : Int) (256 : Int)))
                                        (256 : Int)))
                                    (256 : Int)))
                                (256 : Int))))]))]
              (1 : Nat)
          else none
        else none
      else none
    else none
  else none
else none := by kernel_rfl
noncomputable def ann19 : Nat → Option (List (Nat × Mode)) := lookN [(3, [(6, .keep), (0, .keep), (7, .keep), (8, .keep), (3, .keep)])]
noncomputable def pl19 : Nat → Option (List (Nat × Bool) × List Nat) := lookN []
noncomputable def l19_3 {ρ : Type} (fu : Nat) (K : AV → List (Nat × AO) → Nat → Option ρ) (f3 : Nat) (x0 : List UInt8) (x1 : Int) (x2 : Int) (x3 : List (List UInt8 × List (List UInt8 × List UInt8))) (x4 : List (List UInt8 × List (List UInt8 × List UInt8))) : Option ρ :=
  loopAt E3 ann19 pl19 fu 0 Go.Proofs.Tryz.f19 [1, 1, 0, 1, 0] K [] f3 (St.mk (22 : Nat)
  [((3 : Nat), AV.str x0), ((8 : Nat), AV.int IntKind.i64 x1), ((7 : Nat), AV.int IntKind.i64 x2),
    ((0 : Nat), AV.sl (Ty.prod Ty.str (Ty.list (Ty.prod Ty.str Ty.str))) x3),
    ((6 : Nat), AV.sl (Ty.prod Ty.str (Ty.list (Ty.prod Ty.str Ty.str))) x4)]
  [] (0 : Nat))
theorem e19 {ρ : Type} (fu : Nat) (K : AV → List (Nat × AO) → Nat → Option ρ) (l : List (List UInt8 × List (List UInt8 × List UInt8))) :
    aFun E3 ann19 pl19 fu Go.Proofs.Tryz.f19 [AV.sl (Ty.prod Ty.str (Ty.list (Ty.prod Ty.str Ty.str))) l] [] 0 K =
    l19_3 fu K fu [] (0 : Int) (↑(List.length l) : Int) l l := by kernel_rfl
theorem s19_3 {ρ : Type} (fu : Nat) (K : AV → List (Nat × AO) → Nat → Option ρ) (f3 : Nat) (x0 : List UInt8) (x1 : Int) (x2 : Int) (x3 : List (List UInt8 × List (List UInt8 × List UInt8))) (x4 : List (List UInt8 × List (List UInt8 × List UInt8))) :
    l19_3 fu K  (f3 + 1) x0 x1 x2 x3 x4 =
    bif decide (x1 < x2) then
  bif inb x1 (List.length x4) then
    bif
        lg (Prod.snd (List.getD x4 (Int.toNat x1) ([], []))) &&
          gd (small (Prod.snd (List.getD x4 (Int.toNat x1) ([], [])))) then
      bif
          !(nameB (Prod.fst (List.getD x4 (Int.toNat x1) ([], []))) &&
              (!le8 (Prod.fst (List.getD x4 (Int.toNat x1) ([], []))) x0 &&
                rise (Prod.snd (List.getD x4 (Int.toNat x1) ([], []))))) then
        K (AV.bool false) [] (0 : Nat)
      else
        l19_3 fu K f3 (Prod.fst (List.getD x4 (Int.toNat x1) ([], []))) (IntKind.wrap IntKind.i64 (x1 + (1 : Int))) x2
          x3 x4
    else none
  else none
else K (AV.bool (decide ((↑(List.length x3) : Int) ≤ (16 : Int)))) [] (0 : Nat) := by kernel_rfl
noncomputable def ann45 : Nat → Option (List (Nat × Mode)) := lookN [(4, [(0, .keep), (10, .keep), (11, .keep)]), (10, [(4, .keep), (0, .keep), (10, .keep), (11, .keep), (50, .keep), (51, .keep)])]
noncomputable def pl45 : Nat → Option (List (Nat × Bool) × List Nat) := lookN [(7, [(0, true), (1, true), (2, true), (3, true), (4, true), (5, true), (6, true), (7, true), (8, true), (9, true), (10, true), (11, true), (12, true), (13, true), (15, true), (16, true), (17, true), (18, true), (19, true), (14, true), (20, false), (21, true), (22, true), (23, true), (24, true), (25, true), (26, true), (27, false), (28, true), (29, true)], [4])]
noncomputable def l45_4 {ρ : Type} (fu : Nat) (K : AV → List (Nat × AO) → Nat → Option ρ) (f4 : Nat) (x0 : Int) (x1 : Int) (x2 : List (List UInt8 × List (List UInt8 × List UInt8))) : Option ρ :=
  loopAt E3 ann45 pl45 fu 0 Go.Proofs.Tryz.f45 [1, 1, 0, 1, 0] K [] f4 (St.mk (74 : Nat)
  [((11 : Nat), AV.int IntKind.i64 x0), ((10 : Nat), AV.int IntKind.i64 x1),
    ((0 : Nat), AV.sl (Ty.prod Ty.str (Ty.list (Ty.prod Ty.str Ty.str))) x2)]
  [] (0 : Nat))
theorem e45 {ρ : Type} (fu : Nat) (K : AV → List (Nat × AO) → Nat → Option ρ) (l : List (List UInt8 × List (List UInt8 × List UInt8))) :
    aFun E3 ann45 pl45 fu Go.Proofs.Tryz.f45 [AV.sl (Ty.prod Ty.str (Ty.list (Ty.prod Ty.str Ty.str))) l] [] 0 K =
    bif decide ((↑(List.length l) : Int) > (16 : Int)) then K (AV.bool false) [] (0 : Nat)
else l45_4 fu K fu (0 : Int) (↑(List.length l) : Int) l := by kernel_rfl
noncomputable def l45_10 {ρ : Type} (fu : Nat) (K : AV → List (Nat × AO) → Nat → Option ρ) (f4 : Nat) (f10 : Nat) (x0 : Int) (x1 : Int) (x2 : Int) (x3 : Int) (x4 : List (List UInt8 × List (List UInt8 × List UInt8))) (x5 : List UInt8) (x6 : List (List UInt8 × List UInt8)) : Option ρ :=
  loopAt E3 ann45 pl45 fu 0 Go.Proofs.Tryz.f45 [1, 1, 0, 1, 0, 0, 1, 1, 0, 0, 1, 1, 1, 1, 0] K [f4] f10 (St.mk (74 : Nat)
  [((51 : Nat), AV.int IntKind.i64 x0), ((50 : Nat), AV.int IntKind.i64 x1), ((11 : Nat), AV.int IntKind.i64 x2),
    ((10 : Nat), AV.int IntKind.i64 x3), ((0 : Nat), AV.sl (Ty.prod Ty.str (Ty.list (Ty.prod Ty.str Ty.str))) x4),
    ((4 : Nat), AV.ptr (0 : Nat) (0 : Nat))]
  [((0 : Nat), AO.box [AV.str x5, AV.sl (Ty.prod Ty.str Ty.str) x6])] (1 : Nat))
theorem s45_4 {ρ : Type} (fu : Nat) (K : AV → List (Nat × AO) → Nat → Option ρ) (f4 : Nat) (x0 : Int) (x1 : Int) (x2 : List (List UInt8 × List (List UInt8 × List UInt8))) :
    l45_4 fu K  (f4 + 1) x0 x1 x2 =
    bif decide (x0 < x1) then
  bif inb x0 (List.length x2) then
    bif Prod.fst (List.getD x2 (Int.toNat x0) ([], [])) == [] then K (AV.bool false) [] (0 : Nat)
    else
      bif decide ((↑(List.length (Prod.fst (List.getD x2 (Int.toNat x0) ([], [])))) : Int) > (16 : Int)) then
        K (AV.bool false) [] (0 : Nat)
      else
        bif decide (x0 > (0 : Int)) then
          bif inb (IntKind.wrap IntKind.i64 (x0 - (1 : Int))) (List.length x2) then
            bif
                Op.bytesLess (Prod.fst (List.getD x2 (Int.toNat x0) ([], [])))
                    (Prod.fst (List.getD x2 (Int.toNat (IntKind.wrap IntKind.i64 (x0 - (1 : Int)))) ([], []))) ||
                  Prod.fst (List.getD x2 (Int.toNat x0) ([], [])) ==
                    Prod.fst (List.getD x2 (Int.toNat (IntKind.wrap IntKind.i64 (x0 - (1 : Int)))) ([], [])) then
              K (AV.bool false) [] (0 : Nat)
            else
              bif lg (Prod.snd (List.getD x2 (Int.toNat x0) ([], []))) then
                bif !rise (Prod.snd (List.getD x2 (Int.toNat x0) ([], []))) then K (AV.bool false) [] (0 : Nat)
                else
                  l45_10 fu K f4 fu (0 : Int) (↑(List.length (Prod.snd (List.getD x2 (Int.toNat x0) ([], [])))) : Int)
                    x0 x1 x2 (Prod.fst (List.getD x2 (Int.toNat x0) ([], [])))
                    (Prod.snd (List.getD x2 (Int.toNat x0) ([], [])))
              else none
          else none
        else
          bif lg (Prod.snd (List.getD x2 (Int.toNat x0) ([], []))) then
            bif !rise (Prod.snd (List.getD x2 (Int.toNat x0) ([], []))) then K (AV.bool false) [] (0 : Nat)
            else
              l45_10 fu K f4 fu (0 : Int) (↑(List.length (Prod.snd (List.getD x2 (Int.toNat x0) ([], [])))) : Int) x0 x1
                x2 (Prod.fst (List.getD x2 (Int.toNat x0) ([], []))) (Prod.snd (List.getD x2 (Int.toNat x0) ([], [])))
          else none
  else none
else K (AV.bool true) [] (0 : Nat) := by kernel_rfl
theorem s45_10 {ρ : Type} (fu : Nat) (K : AV → List (Nat × AO) → Nat → Option ρ) (f4 : Nat) (f10 : Nat) (x0 : Int) (x1 : Int) (x2 : Int) (x3 : Int) (x4 : List (List UInt8 × List (List UInt8 × List UInt8))) (x5 : List UInt8) (x6 : List (List UInt8 × List UInt8)) :
    l45_10 fu K f4 (f10 + 1) x0 x1 x2 x3 x4 x5 x6 =
    bif decide (x0 < x1) then
  bif inb x0 (List.length x6) then
    bif decide ((↑(List.length (Prod.fst (List.getD x6 (Int.toNat x0) ([], [])))) : Int) > (16 : Int)) then
      K (AV.bool false) [] (0 : Nat)
    else
      bif inb x0 (List.length x6) then
        bif decide ((↑(List.length (Prod.snd (List.getD x6 (Int.toNat x0) ([], [])))) : Int) > (32 : Int)) then
          K (AV.bool false) [] (0 : Nat)
        else l45_10 fu K f4 f10 (IntKind.wrap IntKind.i64 (x0 + (1 : Int))) x1 x2 x3 x4 x5 x6
      else none
  else none
else l45_4 fu K f4 (IntKind.wrap IntKind.i64 (x2 + (1 : Int))) x3 x4 := by kernel_rfl
noncomputable def ann30 : Nat → Option (List (Nat × Mode)) := lookN [(7, [(0, .keep), (18, .keep), (19, .keep), (3, .own (.prod .str (.list (.prod .str .str))))]), (11, [(0, .keep), (18, .keep), (19, .keep), (5, .bx [(true, 1, .prod .str .str)]), (3, .keep), (7, .keep), (6, .keep)])]
noncomputable def pl30 : Nat → Option (List (Nat × Bool) × List Nat) := lookN []
noncomputable def l30_7 {ρ : Type} (fu : Nat) (K : AV → List (Nat × AO) → Nat → Option ρ) (f7 : Nat) (x0 : Int) (x1 : Int) (x2 : List UInt8) (x3 : Int) (x4 : Int) (x5 : List (List UInt8 × List (List UInt8 × List UInt8))) : Option ρ :=
  loopAt E3 ann30 pl30 fu 1 Go.Proofs.Tryz.f30 [1, 1, 1, 1, 0, 1, 0] K [] f7 (St.mk (53 : Nat)
  [((3 : Nat), AV.own (1 : Nat)), ((19 : Nat), AV.int IntKind.i64 x0), ((18 : Nat), AV.int IntKind.i64 x1),
    ((0 : Nat), AV.ptr (0 : Nat) (0 : Nat))]
  [((0 : Nat), AO.box [AV.sl Ty.byte x2, AV.int IntKind.i64 x3, AV.int IntKind.i64 x4]),
    ((1 : Nat), AO.row (Ty.prod Ty.str (Ty.list (Ty.prod Ty.str Ty.str))) x5)]
  (2 : Nat))
theorem e30 {ρ : Type} (fu : Nat) (K : AV → List (Nat × AO) → Nat → Option ρ) (b : List UInt8) (a : Int) (e : Int) :
    aFun E3 ann30 pl30 fu Go.Proofs.Tryz.f30 [AV.ptr (0 : Nat) (0 : Nat)] [((0 : Nat), AO.box [AV.sl Ty.byte b, AV.int IntKind.i64 a, AV.int IntKind.i64 e])] 1 K =
    bif rdOk b a then
  bif decide (IntKind.wrap IntKind.i64 (takeV b a e (1 : Int)) > (16 : Int)) then
    K AV.nils
      [((0 : Nat),
          AO.box
            [AV.sl Ty.byte b, AV.int IntKind.i64 (takeA b a e (1 : Int)),
              AV.int IntKind.i64 (if takeE b a e (1 : Int) = (0 : Int) then (13 : Int) else takeE b a e (1 : Int))])]
      (1 : Nat)
  else
    l30_7 fu K fu (0 : Int) (IntKind.wrap IntKind.i64 (takeV b a e (1 : Int))) b (takeA b a e (1 : Int))
      (takeE b a e (1 : Int)) []
else none := by kernel_rfl
noncomputable def l30_11 {ρ : Type} (fu : Nat) (K : AV → List (Nat × AO) → Nat → Option ρ) (f7 : Nat) (f11 : Nat) (x0 : List UInt8) (x1 : Int) (x2 : Int) (x3 : Int) (x4 : List UInt8) (x5 : Int) (x6 : Int) (x7 : List (List UInt8 × List (List UInt8 × List UInt8))) (x8 : List UInt8) (x9 : List (List UInt8 × List UInt8)) : Option ρ :=
  loopAt E3 ann30 pl30 fu 1 Go.Proofs.Tryz.f30 [1, 1, 1, 1, 0, 1, 0, 0, 1, 1, 0, 0, 1, 1, 0, 1, 0] K [f7] f11 (St.mk (53 : Nat)
  [((6 : Nat), AV.str x0), ((7 : Nat), AV.int IntKind.u32 x1), ((3 : Nat), AV.own (1 : Nat)),
    ((5 : Nat), AV.ptr (2 : Nat) (0 : Nat)), ((19 : Nat), AV.int IntKind.i64 x2), ((18 : Nat), AV.int IntKind.i64 x3),
    ((0 : Nat), AV.ptr (0 : Nat) (0 : Nat))]
  [((0 : Nat), AO.box [AV.sl Ty.byte x4, AV.int IntKind.i64 x5, AV.int IntKind.i64 x6]),
    ((1 : Nat), AO.row (Ty.prod Ty.str (Ty.list (Ty.prod Ty.str Ty.str))) x7),
    ((2 : Nat), AO.box [AV.str x8, AV.own (3 : Nat)]), ((3 : Nat), AO.row (Ty.prod Ty.str Ty.str) x9)]
  (4 : Nat))
theorem s30_7 {ρ : Type} (fu : Nat) (K : AV → List (Nat × AO) → Nat → Option ρ) (f7 : Nat) (x0 : Int) (x1 : Int) (x2 : List UInt8) (x3 : Int) (x4 : Int) (x5 : List (List UInt8 × List (List UInt8 × List UInt8))) :
    l30_7 fu K  (f7 + 1) x0 x1 x2 x3 x4 x5 =
    bif decide (x0 < x1) then
  bif rdOk x2 x3 then
    bif rdOk x2 (textA x2 x3 x4 (16 : Int)) then
      l30_11 fu K f7 fu [] (takeV x2 (textA x2 x3 x4 (16 : Int)) (textE x2 x3 x4 (16 : Int)) (4 : Int)) x0 x1 x2
        (takeA x2 (textA x2 x3 x4 (16 : Int)) (textE x2 x3 x4 (16 : Int)) (4 : Int))
        (takeE x2 (textA x2 x3 x4 (16 : Int)) (textE x2 x3 x4 (16 : Int)) (4 : Int)) x5 (textS x2 x3 x4 (16 : Int)) []
    else none
  else none
else
  K (AV.own (1 : Nat))
    [((0 : Nat), AO.box [AV.sl Ty.byte x2, AV.int IntKind.i64 x3, AV.int IntKind.i64 x4]),
      ((1 : Nat), AO.row (Ty.prod Ty.str (Ty.list (Ty.prod Ty.str Ty.str))) x5)]
    (2 : Nat) := by kernel_rfl
theorem s30_11 {ρ : Type} (fu : Nat) (K : AV → List (Nat × AO) → Nat → Option ρ) (f7 : Nat) (f11 : Nat) (x0 : List UInt8) (x1 : Int) (x2 : Int) (x3 : Int) (x4 : List UInt8) (x5 : Int) (x6 : Int) (x7 : List (List UInt8 × List (List UInt8 × List UInt8))) (x8 : List UInt8) (x9 : List (List UInt8 × List UInt8)) :
    l30_11 fu K f7 (f11 + 1) x0 x1 x2 x3 x4 x5 x6 x7 x8 x9 =
    bif decide (x1 > (0 : Int)) then
  bif rdOk x4 x5 then
    bif rdOk x4 x5 && gd (List.length x0 ≤ (1000 : Nat)) then
      bif rdOk x4 (pairA x4 x5 x6 x0) then
        bif (↑(List.length x4) : Int) - pairA x4 x5 x6 x0 == (↑(List.length x4) : Int) - x5 then
          bif decide (List.length x7 + (1 : Nat) ≤ lim) then
            l30_7 fu K f7 (IntKind.wrap IntKind.i64 (x2 + (1 : Int))) x3 x4 (pairA x4 x5 x6 x0) (pairE x4 x5 x6 x0)
              (x7 ++ [(x8, x9)])
          else none
        else
          bif decide (List.length x9 + (1 : Nat) ≤ lim) then
            l30_11 fu K f7 f11 (pairK x4 x5 x6 x0) (IntKind.wrap IntKind.u32 (x1 - (1 : Int))) x2 x3 x4
              (pairA x4 x5 x6 x0) (pairE x4 x5 x6 x0) x7 x8 (x9 ++ [(pairK x4 x5 x6 x0, pairV x4 x5 x6 x0)])
          else none
      else none
    else none
  else none
else
  bif decide (List.length x7 + (1 : Nat) ≤ lim) then
    l30_7 fu K f7 (IntKind.wrap IntKind.i64 (x2 + (1 : Int))) x3 x4 x5 x6 (x7 ++ [(x8, x9)])
  else none := by kernel_rfl

noncomputable def vTxt {ρ : Type} (K : AV → List (Nat × AO) → Nat → Option ρ) (b s : List UInt8) : Option ρ := bif sg 512 b && gd (s.length ≤ 255) then K (.own 0) [(0, .row .byte (b ++ (UInt8.ofNat s.length :: s)))] 1 else none
noncomputable def S52 : Summ := fun ρ args hp K => match args, hp with
  | [.sl .byte b, .str s], [] => vTxt K b s
  | _, _ => none
theorem a52 {ρ : Type} {fin : ρ} (K : AV → List (Nat × AO) → Nat → Option ρ) (b s : List UInt8) (h : vTxt K b s = some fin) : aFun E3 ann52 pl52 9 Go.Proofs.Tryz.f52 [.sl .byte b, .str s] [] 0 K = some fin := by
  obtain ⟨hg, h⟩ := bif_t h
  rw [Bool.and_eq_true] at hg
  have hs := gd_is hg.2
  have hb := sg_is hg.1
  have hm : (if (255 : Int) < (s.length : Int) then (255 : Int) else (s.length : Int)) = (s.length : Int) := by split <;> omega
  have h1 : (decide ((0 : Int) ≤ (s.length : Int)) && decide ((s.length : Int) ≤ (s.length : Int))) = true := by simp
  rw [e52, hm, h1, cond_true, Int.toNat_natCast, List.take_length, wrap_u8 (n := ((s.length : Nat) : Int)) (by omega) (by omega), rg_t (by omega), cond_true, sg_t (by omega), cond_true, Int.toNat_natCast, lim_t (by simp; omega), ← h]
  show K _ [(0, .row .byte ((b ++ [UInt8.ofNat s.length]) ++ s))] _ = _
  rw [List.append_assoc]
  rfl
theorem ok52 : SpecOk Go.Proofs.Tryz.prog 52 (adapt [.imm .byte, .keep] .keep S52) := adapt_ok (use mixed env3 Go.Proofs.Tryz.func52 (by kernel_rfl) (by
  intro ρ fin args hp K h
  unfold S52 at h
  split at h
  · exact ⟨_, _, _, a52 K _ _ h⟩
  · cases h)) _ _
theorem a46 {ρ : Type} {fin : ρ} (K : AV → List (Nat × AO) → Nat → Option ρ) (b s : List UInt8) (h : vTxt K b s = some fin) : aFun E3 ann46 pl46 9 Go.Proofs.Tryz.f46 [.sl .byte b, .str s] [] 0 K = some fin := by
  obtain ⟨hg, h⟩ := bif_t h
  rw [Bool.and_eq_true] at hg
  have hs := gd_is hg.2
  have hb := sg_is hg.1
  have h1 : decide (((s.length : Nat) : Int) > 255) = false := decide_eq_false (by omega)
  have h2 : (beL 8 s.length []).drop 7 = [UInt8.ofNat s.length] := rfl
  rw [e46, h1, cond_false, wrap_u64 (n := ((s.length : Nat) : Int)) (by omega) (by omega), rg_t (by omega), rg19, Int.toNat_natCast, h2, Bool.true_and, cond_true, sg_t (by omega), cond_true, lim_t (by simp; omega), ← h]
  show K _ [(0, .row .byte ((b ++ [UInt8.ofNat s.length]) ++ s))] _ = _
  rw [List.append_assoc]
  rfl
theorem ok46 : SpecOk Go.Proofs.Tryz.prog 46 (adapt [.imm .byte, .keep] .keep S52) := adapt_ok (use mixed env3 Go.Proofs.Tryz.func46 (by kernel_rfl) (by
  intro ρ fin args hp K h
  unfold S52 at h
  split at h
  · exact ⟨_, _, _, a46 K _ _ h⟩
  · cases h)) _ _

/-! Marks. -/
noncomputable def vMark {ρ : Type} (K : AV → List (Nat × AO) → Nat → Option ρ) (b : List UInt8) : Option ρ := bif sg 16 b then K (.own 0) [(0, .row .byte (b ++ le4 (sumN 0 b)))] 1 else none
noncomputable def S22 : Summ := fun ρ args hp K => match args, hp with
  | [.sl .byte b], [] => vMark K b
  | _, _ => none
theorem le4_eq (n : Nat) : [UInt8.ofNat (n % 256), UInt8.ofNat (n / 256 % 256), UInt8.ofNat (n / 65536 % 256), UInt8.ofNat (n / 16777216 % 256)] = le4 n := by
  simp only [ofNat_mod]; rfl
theorem a22 {ρ : Type} {fin : ρ} (K : AV → List (Nat × AO) → Nat → Option ρ) (b : List UInt8) (h : vMark K b = some fin) : aFun E3 ann22 pl22 9 Go.Proofs.Tryz.f22 [.sl .byte b] [] 0 K = some fin := by
  obtain ⟨hg, h⟩ := bif_t h
  have hb := sg_is hg
  have hlim : (lim : Int) = 4294967296 := rfl
  rw [e22, lg_t (by omega), cond_true, rg_t (sumN_lt 0 b), cond_true, wrap_i64 (by omega) (by omega), le4_eq, ← h]
  have h1 : decide ((0 : Int) ≤ (b.length : Int) + 4) = true := decide_eq_true (by omega)
  have h2 : decide ((b.length : Int) + 4 ≤ (lim : Int)) = true := decide_eq_true (by omega)
  rw [h1, h2, lim_t (by simp; omega), lim_t (by simp [le4]; omega)]
  rfl
theorem ok22 : SpecOk Go.Proofs.Tryz.prog 22 (adapt [.imm .byte] .keep S22) := adapt_ok (use mixed env3 Go.Proofs.Tryz.func22 (by kernel_rfl) (by
  intro ρ fin args hp K h
  unfold S22 at h
  split at h
  · exact ⟨_, _, _, a22 K _ h⟩
  · cases h)) _ _
theorem a43 {ρ : Type} {fin : ρ} (K : AV → List (Nat × AO) → Nat → Option ρ) (b : List UInt8) (h : vMark K b = some fin) : aFun E3 ann43 pl43 6 Go.Proofs.Tryz.f43 [.sl .byte b] [] 0 K = some fin := by
  obtain ⟨hg, h⟩ := bif_t h
  have hb := sg_is hg
  have hn := sumN_lt 0 b
  have hd : ∀ n : Nat, n < 4294967296 → IntKind.wrap .u32 (Int.tdiv ((n : Nat) : Int) (256 : Int)) = ((n / 256 : Nat) : Int) := fun n hn => by
    rw [Int.tdiv_eq_ediv_of_nonneg (by omega), wrap_u32 (by omega) (by omega)]; omega
  have hm : ∀ n : Nat, UInt8.ofNat (Int.toNat (IntKind.wrap .u8 (Int.tmod ((n : Nat) : Int) (256 : Int)))) = UInt8.ofNat n := fun n => by
    rw [Int.tmod_eq_emod_of_nonneg (by omega), wrap_u8 (by omega) (by omega)]
    rw [show ((n : Int) % 256).toNat = n % 256 by omega, ofNat_mod]
  rw [e43 9, hd _ hn, hd _ (by omega), hd _ (by omega), hm, hm, hm, hm, Nat.div_div_eq_div_mul, Nat.div_div_eq_div_mul, lim_t (by omega), cond_true, lg_t (by omega), cond_true, lim_t (by omega), cond_true, lim_t (by simp; omega), cond_true, lim_t (by simp; omega), cond_true, lim_t (by simp; omega), ← h]
  simp only [cond_true, List.append_assoc]
  rfl
theorem ok43 : SpecOk Go.Proofs.Tryz.prog 43 (adapt [.imm .byte] .keep S22) := adapt_ok (use mixed env3 Go.Proofs.Tryz.func43 (by kernel_rfl) (by
  intro ρ fin args hp K h
  unfold S22 at h
  split at h
  · exact ⟨_, _, _, a43 K _ h⟩
  · cases h)) _ _

/-- Do bytes end with their sum? -/
def fitsB (b : List UInt8) : Bool := decide (4 ≤ b.length) && (le4 (sumN 0 (b.take (b.length - 4))) == b.drop (b.length - 4))
noncomputable def v27 {ρ : Type} (K : AV → List (Nat × AO) → Nat → Option ρ) (b : List UInt8) : Option ρ := bif gd (b.length ≤ 65536) then K (.bool (fitsB b)) [] 0 else none
noncomputable def S27 : Summ := fun ρ args hp K => match args, hp with
  | [.sl .byte b], [] => v27 K b
  | _, _ => none
theorem byte_eq (n : Nat) (c : UInt8) : (((n % 256 : Nat) : Int) == ((c.toNat : Nat) : Int)) = (UInt8.ofNat n == c) := by
  rw [Bool.eq_iff_iff, beq_iff_eq, beq_iff_eq]
  constructor
  · intro h
    apply UInt8.toNat_inj.1
    rw [UInt8.toNat_ofNat']
    omega
  · intro h
    subst h
    rw [UInt8.toNat_ofNat']
theorem four (l : List UInt8) (h : l.length = 4) : l = [l.getD 0 0, l.getD 1 0, l.getD 2 0, l.getD 3 0] := by
  match l, h with
  | [a, b, c, d], _ => rfl
theorem a27 {ρ : Type} {fin : ρ} (K : AV → List (Nat × AO) → Nat → Option ρ) (b : List UInt8) (h : v27 K b = some fin) : aFun E3 ann27 pl27 9 Go.Proofs.Tryz.f27 [.sl .byte b] [] 0 K = some fin := by
  obtain ⟨hg, h⟩ := bif_t h
  have hb := gd_is hg
  rw [e27, wrap_i64 (n := (b.length : Int) - 4) (by omega) (by omega), ← h]
  by_cases h4 : 4 ≤ b.length
  · have h1 : decide ((b.length : Int) - 4 ≥ 0) = true := decide_eq_true (by omega)
    have h2 : (decide ((0 : Int) ≤ (b.length : Int) - 4) && decide ((b.length : Int) - 4 ≤ (b.length : Int))) = true := by simp; omega
    have h3 : ((b.length : Int) - 4).toNat = b.length - 4 := by omega
    have hl : (b.drop (b.length - 4)).length = 4 := by rw [List.length_drop]; omega
    rw [h2, h1, h3, List.take_length, hl, lg_t (by rw [List.length_take]; omega), rg_t (sumN_lt 0 _)]
    simp only [byte_eq, cond_true, Bool.and_true, show Nat.ble 4 4 = true from rfl]
    have hf := four _ hl
    have : fitsB b = (le4 (sumN 0 (b.take (b.length - 4))) == b.drop (b.length - 4)) := by
      unfold fitsB; rw [decide_eq_true h4, Bool.true_and]
    rw [this]
    generalize sumN 0 (b.take (b.length - 4)) = n
    generalize b.drop (b.length - 4) = d at hf
    have e : (le4 n == d) = (bif UInt8.ofNat n == d.getD 0 0 then bif UInt8.ofNat (n / 256) == d.getD 1 0 then bif UInt8.ofNat (n / 65536) == d.getD 2 0 then bif UInt8.ofNat (n / 16777216) == d.getD 3 0 then true else false else false else false else false) := by
      rw [hf]
      rw [Bool.eq_iff_iff]
      simp [le4]
    rw [e]
  · have h1 : decide ((b.length : Int) - 4 ≥ 0) = false := decide_eq_false (by omega)
    have : fitsB b = false := by unfold fitsB; rw [decide_eq_false h4, Bool.false_and]
    rw [h1, cond_false, this]
theorem ok27 : SpecOk Go.Proofs.Tryz.prog 27 S27 := use mixed env3 Go.Proofs.Tryz.func27 (by kernel_rfl) (by
  intro ρ fin args hp K h
  unfold S27 at h
  split at h
  · exact ⟨_, _, _, a27 K _ h⟩
  · cases h)

/-! Volumes that may be dumped. -/
abbrev Vols := List (List UInt8 × Prs)
def fine (l : Vols) : Prop := ∀ v ∈ l, v.2.length ≤ 65536 ∧ small v.2
def mayF : List UInt8 → Vols → Bool
  | _, [] => true
  | last, v :: r => nameB v.1 && (!(le8 v.1 last) && rise v.2) && mayF v.1 r
def mayB (l : Vols) : Bool := mayF [] l && decide (l.length ≤ 16)
theorem l19 {ρ : Type} (fu : Nat) (K : AV → List (Nat × AO) → Nat → Option ρ) (l : Vols) (hl : l.length ≤ 4294967296) (hs : fine l) : ∀ (f k : Nat) (last : List UInt8), l.length + 1 ≤ k + f → k ≤ l.length → l19_3 fu K f last (k : Int) (l.length : Int) l l = K (.bool (mayF last (l.drop k) && decide (l.length ≤ 16))) [] 0 ∨ f = 0
  | 0, _, _, _, _ => .inr rfl
  | f + 1, k, last, hf, hk => by
    left
    rw [s19_3]
    by_cases h : k < l.length
    · have h1 : decide ((k : Int) < (l.length : Int)) = true := decide_eq_true (by omega)
      obtain ⟨g1, g2⟩ := hs l[k] (List.getElem_mem h)
      rw [h1, cond_true, inb_nat h, cond_true, Int.toNat_natCast, getD_of h, lg_t (by omega), gd_t g2, Bool.and_self, cond_true, wrap_i64 (n := (k : Int) + 1) (by omega) (by omega)]
      have e : l.drop k = l[k] :: l.drop (k + 1) := List.drop_eq_getElem_cons h
      rw [e]
      show _ = K (.bool ((nameB l[k].1 && (!(le8 l[k].1 last) && rise l[k].2) && mayF l[k].1 (l.drop (k + 1))) && decide (l.length ≤ 16))) [] 0
      cases hb : (nameB l[k].1 && (!(le8 l[k].1 last) && rise l[k].2))
      · rfl
      · rcases l19 fu K l hl hs f (k + 1) l[k].1 (by omega) (by omega) with h3 | h3
        · rw [show ((k : Int) + 1) = ((k + 1 : Nat) : Int) by omega, h3]; rfl
        · omega
    · have h1 : decide ((k : Int) < (l.length : Int)) = false := decide_eq_false (by omega)
      have h2 : decide ((l.length : Int) ≤ 16) = decide (l.length ≤ 16) := by rw [decide_eq_decide]; omega
      rw [h1, cond_false, h2, List.drop_eq_nil_of_le (by omega)]
      rfl
noncomputable def v19 {ρ : Type} (K : AV → List (Nat × AO) → Nat → Option ρ) (l : Vols) : Option ρ := bif lg l && gd (fine l) then K (.bool (mayB l)) [] 0 else none
noncomputable def S19 : Summ := fun ρ args hp K => match args, hp with
  | [.sl (.prod .str (.list (.prod .str .str))) l], [] => v19 K l
  | _, _ => none
theorem a19 {ρ : Type} {fin : ρ} (K : AV → List (Nat × AO) → Nat → Option ρ) (l : Vols) (h : v19 K l = some fin) : aFun E3 ann19 pl19 (l.length + 1) Go.Proofs.Tryz.f19 [.sl (.prod .str (.list (.prod .str .str))) l] [] 0 K = some fin := by
  obtain ⟨hg, h⟩ := bif_t h
  rw [Bool.and_eq_true] at hg
  rw [e19, ← h]
  rcases l19 (l.length + 1) K l (lg_is hg.1) (gd_is hg.2) (l.length + 1) 0 [] (by omega) (by omega) with h3 | h3
  · exact h3
  · omega
theorem ok19 : SpecOk Go.Proofs.Tryz.prog 19 (adapt [.imm (.prod .str (.list (.prod .str .str)))] .keep S19) := adapt_ok (use mixed env3 Go.Proofs.Tryz.func19 (by kernel_rfl) (by
  intro ρ fin args hp K h
  unfold S19 at h
  split at h
  · exact ⟨_, _, _, a19 K _ h⟩
  · cases h)) _ _

theorem l45i {ρ : Type} (fu : Nat) (K : AV → List (Nat × AO) → Nat → Option ρ) (f4 : Nat) (x2 x3 : Int) (l : Vols) (nm : List UInt8) (p : Prs) (hl : p.length ≤ 65536) (hs : small p) : ∀ (f k : Nat), p.length + 1 ≤ k + f → k ≤ p.length →
    l45_10 fu K f4 f (k : Int) (p.length : Int) x2 x3 l nm p = l45_4 fu K f4 (IntKind.wrap .i64 (x2 + 1)) x3 l ∨ f = 0
  | 0, _, _, _ => .inr rfl
  | f + 1, k, hf, hk => by
    left
    rw [s45_10]
    by_cases h : k < p.length
    · have h1 : decide ((k : Int) < (p.length : Int)) = true := decide_eq_true (by omega)
      have hsk := hs p[k] (List.getElem_mem h)
      have g1 : decide (((p[k].1.length : Nat) : Int) > 16) = false := decide_eq_false (by omega)
      have g2 : decide (((p[k].2.length : Nat) : Int) > 32) = false := decide_eq_false (by omega)
      rw [h1, cond_true, inb_nat h, cond_true, Int.toNat_natCast, getD_of h, g1, cond_false, cond_true, g2, cond_false, wrap_i64 (n := (k : Int) + 1) (by omega) (by omega)]
      rcases l45i fu K f4 x2 x3 l nm p hl hs f (k + 1) (by omega) (by omega) with h3 | h3
      · rw [show ((k : Int) + 1) = ((k + 1 : Nat) : Int) by omega, h3]
      · omega
    · have h1 : decide ((k : Int) < (p.length : Int)) = false := decide_eq_false (by omega)
      rw [h1, cond_false]

/-- The name before a place. -/
def lastAt (l : Vols) : Nat → List UInt8
  | 0 => []
  | k + 1 => (l.getD k ([], [])).1
theorem le8_nil (x : List UInt8) (h : x ≠ []) : le8 x [] = false := by
  cases x with
  | nil => exact absurd rfl h
  | cons a r => rfl

theorem l45 {ρ : Type} (fu : Nat) (K : AV → List (Nat × AO) → Nat → Option ρ) (l : Vols) (hl : l.length ≤ 65536) (hfu : 65537 ≤ fu) (hs : fine l) : ∀ (f k : Nat), l.length + 1 ≤ k + f → k ≤ l.length → l45_4 fu K f (k : Int) (l.length : Int) l = K (.bool (mayF (lastAt l k) (l.drop k))) [] 0 ∨ f = 0
  | 0, _, _, _ => .inr rfl
  | f + 1, k, hf, hk => by
    left
    rw [s45_4]
    by_cases h : k < l.length
    · have h1 : decide ((k : Int) < (l.length : Int)) = true := decide_eq_true (by omega)
      obtain ⟨g1, g2⟩ := hs l[k] (List.getElem_mem h)
      have e : l.drop k = l[k] :: l.drop (k + 1) := List.drop_eq_getElem_cons h
      have eL : lastAt l (k + 1) = l[k].1 := by show (l.getD k _).1 = _; rw [getD_of h]
      have tail : (bif !rise l[k].2 then K (.bool false) [] 0 else l45_10 fu K f fu 0 (l[k].2.length : Int) (k : Int) (l.length : Int) l l[k].1 l[k].2) = K (.bool (rise l[k].2 && mayF l[k].1 (l.drop (k + 1)))) [] 0 := by
        cases rise l[k].2
        · rfl
        · have hi := l45i fu K f (k : Int) (l.length : Int) l l[k].1 l[k].2 g1 g2 fu 0 (by omega) (by omega)
          rcases hi with hi | hi
          · refine Eq.trans hi ?_
            rw [wrap_i64 (by omega) (by omega)]
            rcases l45 fu K l hl hfu hs f (k + 1) (by omega) (by omega) with h3 | h3
            · rw [show ((k : Int) + 1) = ((k + 1 : Nat) : Int) by omega, h3, eL]; rfl
            · omega
          · omega
      rw [h1, cond_true, inb_nat h, cond_true, Int.toNat_natCast, getD_of h, lg_t (by omega), cond_true, tail, e]
      show _ = K (.bool (nameB l[k].1 && (!(le8 l[k].1 (lastAt l k)) && rise l[k].2) && mayF l[k].1 (l.drop (k + 1)))) [] 0
      by_cases hn : l[k].1 = []
      · have b1 : (l[k].1 == []) = true := by rw [beq_iff_eq]; exact hn
        have b2 : nameB l[k].1 = false := by rw [hn]; rfl
        rw [b1, b2]; rfl
      · have b1 : (l[k].1 == []) = false := by rw [beq_eq_false_iff_ne]; exact hn
        have hpos : 1 ≤ l[k].1.length := by
          cases hh : l[k].1 with
          | nil => exact absurd hh hn
          | cons a r => simp
        rw [b1, cond_false]
        by_cases hm : l[k].1.length ≤ 16
        · have b2 : decide (((l[k].1.length : Nat) : Int) > 16) = false := decide_eq_false (by omega)
          have b3 : nameB l[k].1 = true := by unfold nameB; rw [decide_eq_true hpos, decide_eq_true hm]; rfl
          rw [b2, b3, cond_false]
          cases k with
          | zero =>
            have : le8 l[0].1 (lastAt l 0) = false := le8_nil _ hn
            rw [this]; rfl
          | succ k =>
            have h2 : decide (((k + 1 : Nat) : Int) > 0) = true := decide_eq_true (by omega)
            have h3 : IntKind.wrap .i64 (((k + 1 : Nat) : Int) - 1) = (k : Int) := by rw [wrap_i64 (by omega) (by omega)]; omega
            have hk' : k < l.length := by omega
            have eK : lastAt l (k + 1) = l[k].1 := by show (l.getD k _).1 = _; rw [getD_of hk']
            rw [h2, cond_true, h3, inb_nat hk', cond_true, Int.toNat_natCast, getD_of hk', eK]
            show (bif le8 l[k + 1].1 l[k].1 then _ else _) = _
            cases le8 l[k + 1].1 l[k].1 <;> rfl
        · have b2 : decide (((l[k].1.length : Nat) : Int) > 16) = true := decide_eq_true (by omega)
          have b3 : nameB l[k].1 = false := by unfold nameB; rw [decide_eq_false hm, Bool.and_false]
          rw [b2, b3]; rfl
    · have h1 : decide ((k : Int) < (l.length : Int)) = false := decide_eq_false (by omega)
      rw [h1, cond_false, List.drop_eq_nil_of_le (by omega)]
      rfl
noncomputable def v45 {ρ : Type} (K : AV → List (Nat × AO) → Nat → Option ρ) (l : Vols) : Option ρ := bif gd (l.length ≤ 65536) && gd (fine l) then K (.bool (mayB l)) [] 0 else none
noncomputable def S45 : Summ := fun ρ args hp K => match args, hp with
  | [.sl (.prod .str (.list (.prod .str .str))) l], [] => v45 K l
  | _, _ => none
theorem a45 {ρ : Type} {fin : ρ} (K : AV → List (Nat × AO) → Nat → Option ρ) (l : Vols) (h : v45 K l = some fin) : aFun E3 ann45 pl45 65537 Go.Proofs.Tryz.f45 [.sl (.prod .str (.list (.prod .str .str))) l] [] 0 K = some fin := by
  obtain ⟨hg, h⟩ := bif_t h
  rw [Bool.and_eq_true] at hg
  have hl := gd_is hg.1
  rw [e45, ← h]
  by_cases h16 : l.length ≤ 16
  · have h1 : decide ((l.length : Int) > 16) = false := decide_eq_false (by omega)
    rw [h1, cond_false]
    rcases l45 65537 K l hl (by omega) (gd_is hg.2) 65537 0 (by omega) (by omega) with h3 | h3
    · refine Eq.trans h3 ?_
      unfold mayB
      rw [decide_eq_true h16, Bool.and_true]; rfl
    · omega
  · have h1 : decide ((l.length : Int) > 16) = true := decide_eq_true (by omega)
    rw [h1, cond_true]
    unfold mayB
    rw [decide_eq_false h16, Bool.and_false]
theorem ok45 : SpecOk Go.Proofs.Tryz.prog 45 (adapt [.imm (.prod .str (.list (.prod .str .str)))] .keep S45) := adapt_ok (use mixed env3 Go.Proofs.Tryz.func45 (by kernel_rfl) (by
  intro ρ fin args hp K h
  unfold S45 at h
  split at h
  · exact ⟨_, _, _, a45 K _ h⟩
  · cases h)) _ _

/-! Volumes, as the program takes them. -/
def pairsP (b : List UInt8) : Nat → List UInt8 → Int → Int → Prs → Prs × Int × Int
  | 0, _, a, e, acc => (acc, a, e)
  | m + 1, last, a, e, acc =>
    if pairA b a e last = a then (acc, pairA b a e last, pairE b a e last)
    else pairsP b m (pairK b a e last) (pairA b a e last) (pairE b a e last) (acc ++ [(pairK b a e last, pairV b a e last)])
def oneP (b : List UInt8) (a e : Int) : Prs × Int × Int :=
  pairsP b (takeV b (textA b a e 16) (textE b a e 16) 4).toNat [] (takeA b (textA b a e 16) (textE b a e 16) 4) (takeE b (textA b a e 16) (textE b a e 16) 4) []
def volsP (b : List UInt8) : Nat → Int → Int → Vols → Vols × Int × Int
  | 0, a, e, out => (out, a, e)
  | n + 1, a, e, out => volsP b n (oneP b a e).2.1 (oneP b a e).2.2 (out ++ [(textS b a e 16, (oneP b a e).1)])

theorem l30i {ρ : Type} (fu : Nat) (K : AV → List (Nat × AO) → Nat → Option ρ) (f7 : Nat) (i n : Int) (out : Vols) (b nm : List UInt8) (hb : b.length ≤ 65536) (ho : out.length ≤ 1000) : ∀ (f m k : Nat) (e : Int) (last : List UInt8) (acc : Prs), k ≤ b.length → m < 4294967296 → last.length ≤ 16 → acc.length ≤ k → b.length + 1 ≤ k + f →
    l30_11 fu K f7 f last (m : Int) i n b (k : Int) e out nm acc =
      l30_7 fu K f7 (IntKind.wrap .i64 (i + 1)) n b (pairsP b m last k e acc).2.1 (pairsP b m last k e acc).2.2 (out ++ [(nm, (pairsP b m last k e acc).1)])
  | 0, m, k, e, last, acc, hk, hm, hl, ha, hf => by
    exfalso; omega
  | f + 1, 0, k, e, last, acc, hk, hm, hl, ha, hf => by
    rw [s30_11, lim_t (by omega)]; rfl
  | f + 1, m + 1, k, e, last, acc, hk, hm, hl, ha, hf => by
    rw [s30_11]
    have h1 : decide (((m + 1 : Nat) : Int) > 0) = true := decide_eq_true (by omega)
    obtain ⟨q, hq, hkq, hql, _⟩ := pair_at b k e last hk
    have hw : IntKind.wrap .u32 (((m + 1 : Nat) : Int) - 1) = (m : Int) := by rw [wrap_u32 (by omega) (by omega)]; omega
    rw [h1, cond_true, rdOk_t hk (by omega), cond_true, gd_t (show last.length ≤ 1000 by omega), Bool.and_self, cond_true, hq, rdOk_t hql (by omega), cond_true]
    by_cases hqk : q = k
    · have h2 : ((b.length : Int) - (q : Int) == (b.length : Int) - (k : Int)) = true := by rw [hqk]; exact beq_self_eq_true _
      have : pairsP b (m + 1) last k e acc = (acc, (q : Int), pairE b k e last) := by
        rw [pairsP, hq, if_pos (by omega)]
      rw [h2, cond_true, lim_t (by omega), cond_true, this]
    · have h2 : ((b.length : Int) - (q : Int) == (b.length : Int) - (k : Int)) = false := by simp; omega
      have hR : pairsP b (m + 1) last k e acc = pairsP b m (pairK b k e last) q (pairE b k e last) (acc ++ [(pairK b k e last, pairV b k e last)]) := by
        rw [pairsP, hq, if_neg (by omega)]
      rw [h2, cond_false, lim_t (by omega), cond_true, hw, hR]
      exact l30i fu K f7 i n out b nm hb ho f m q _ _ _ hql (by omega) (key_len b k e last hk hl) (by simp; omega) (by omega)

theorem pairsP_at (b : List UInt8) : ∀ (m k : Nat) (e : Int) (last : List UInt8) (acc : Prs), k ≤ b.length → ∃ j : Nat, (pairsP b m last k e acc).2.1 = j ∧ k ≤ j ∧ j ≤ b.length
  | 0, k, e, last, acc, hk => ⟨k, rfl, Nat.le_refl _, hk⟩
  | m + 1, k, e, last, acc, hk => by
    obtain ⟨q, hq, hkq, hql, _⟩ := pair_at b k e last hk
    rw [pairsP, hq]
    split
    · exact ⟨q, rfl, hkq, hql⟩
    · obtain ⟨j, h1, h2, h3⟩ := pairsP_at b m q (pairE b k e last) (pairK b k e last) (acc ++ [(pairK b k e last, pairV b k e last)]) hql
      exact ⟨j, h1, by omega, h3⟩
theorem oneP_at (b : List UInt8) (k : Nat) (e : Int) (hk : k ≤ b.length) : ∃ j : Nat, (oneP b k e).2.1 = j ∧ j ≤ b.length := by
  unfold oneP
  obtain ⟨j, hj, _, hjl, _⟩ := text_at b k e 16 hk
  rw [hj]
  obtain ⟨i, hi, _, hil, _⟩ := take_at b j (textE b k e 16) 4 hjl (by omega)
  have hi : takeA b j (textE b k e 16) 4 = i := hi
  rw [hi]
  obtain ⟨q, h1, _, h3⟩ := pairsP_at b (takeV b j (textE b k e 16) 4).toNat i (takeE b j (textE b k e 16) 4) [] [] hil
  exact ⟨q, h1, h3⟩

theorem l30 {ρ : Type} (fu : Nat) (K : AV → List (Nat × AO) → Nat → Option ρ) (b : List UInt8) (hb : b.length ≤ 65536) (hfu : 65537 ≤ fu) (n : Nat) (hn : n ≤ 256) : ∀ (f i k : Nat) (e : Int) (out : Vols), k ≤ b.length → n + 1 ≤ i + f → i ≤ n → out.length ≤ i →
    l30_7 fu K f (i : Int) (n : Int) b (k : Int) e out = K (.own 1) [(0, .box [.sl .byte b, .int .i64 (volsP b (n - i) k e out).2.1, .int .i64 (volsP b (n - i) k e out).2.2]), (1, .row (.prod .str (.list (.prod .str .str))) (volsP b (n - i) k e out).1)] 2 ∨ f = 0
  | 0, _, _, _, _, _, _, _, _ => .inr rfl
  | f + 1, i, k, e, out, hk, hf, hi, ho => by
    left
    rw [s30_7]
    by_cases h : i < n
    · have h1 : decide ((i : Int) < (n : Int)) = true := decide_eq_true (by omega)
      obtain ⟨j, hj, _, hjl, _⟩ := text_at b k e 16 hk
      obtain ⟨_, _, v, hv, hlt⟩ := take_is b j (textE b k e 16) 4 hjl (by omega)
      have hv : takeV b j (textE b k e 16) 4 = v := hv
      obtain ⟨q, hq, _, hql, _⟩ := take_at b j (textE b k e 16) 4 hjl (by omega)
      have hq : takeA b j (textE b k e 16) 4 = q := hq
      rw [h1, cond_true, rdOk_t hk (by omega), cond_true, hj, rdOk_t hjl (by omega), cond_true, hv, hq]
      have hin := l30i fu K f (i : Int) (n : Int) out b (textS b k e 16) hb (by omega) fu v q (takeE b j (textE b k e 16) 4) [] [] hql (by omega) (by simp) (by simp) (by omega)
      refine Eq.trans hin ?_
      have hone : pairsP b v [] q (takeE b j (textE b k e 16) 4) [] = oneP b k e := by
        unfold oneP; rw [hj, hv, hq]; rfl
      obtain ⟨p, hp, hpl⟩ := oneP_at b k e hk
      rw [hone, hp, wrap_i64 (by omega) (by omega)]
      rcases l30 fu K b hb hfu n hn f (i + 1) p (oneP b k e).2.2 (out ++ [(textS b k e 16, (oneP b k e).1)]) hpl (by omega) (by omega) (by simp; omega) with h3 | h3
      · rw [show ((i : Int) + 1) = ((i + 1 : Nat) : Int) by omega, h3]
        have : n - i = (n - (i + 1)) + 1 := by omega
        rw [this, volsP, hp]
      · omega
    · have h1 : decide ((i : Int) < (n : Int)) = false := decide_eq_false (by omega)
      have : n - i = 0 := by omega
      rw [h1, cond_false, this]
      rfl

/-- What the program takes. -/
def takenP (b : List UInt8) : Vols × Int × Int := volsP b (takeV b 0 0 1).toNat (takeA b 0 0 1) (takeE b 0 0 1) []
noncomputable def v30 {ρ : Type} (K : AV → List (Nat × AO) → Nat → Option ρ) (b : List UInt8) : Option ρ :=
  bif gd (b.length ≤ 65536) then
    (bif gd (takeV b 0 0 1 > 16) then K .nils [(0, .box [.sl .byte b, .int .i64 (takeA b 0 0 1), .int .i64 13])] 1
    else K (.own 1) [(0, .box [.sl .byte b, .int .i64 (takenP b).2.1, .int .i64 (takenP b).2.2]), (1, .row (.prod .str (.list (.prod .str .str))) (takenP b).1)] 2)
  else none
noncomputable def S30 : Summ := fun ρ args hp K => match args, hp with
  | [.ptr 0 0], [(0, .box [.sl .byte b, .int .i64 0, .int .i64 0])] => v30 K b
  | _, _ => none
theorem gd_f {p : Prop} (h : ¬ p) : gd p = false := by unfold gd; exact @decide_eq_false p (Classical.propDecidable p) h
theorem a30 {ρ : Type} {fin : ρ} (K : AV → List (Nat × AO) → Nat → Option ρ) (b : List UInt8) (h : v30 K b = some fin) : aFun E3 ann30 pl30 65537 Go.Proofs.Tryz.f30 [.ptr 0 0] [(0, .box [.sl .byte b, .int .i64 0, .int .i64 0])] 1 K = some fin := by
  obtain ⟨hg, h⟩ := bif_t h
  have hb := gd_is hg
  obtain ⟨g1, g2, v, hv, hlt⟩ := take_is b 0 0 1 (by omega) (by omega)
  have hv : takeV b 0 0 1 = v := hv
  have hlt : v < 256 := by simpa using hlt
  obtain ⟨q, hq, _, hql, _⟩ := take_at b 0 0 1 (by omega) (by omega)
  have hq : takeA b 0 0 1 = q := hq
  have r0 : rdOk b (0 : Int) = true := rdOk_t (k := 0) (by omega) (by omega)
  rw [e30, r0, cond_true, hv, wrap_i64 (by omega) (by omega), ← h, hv]
  by_cases hc : v > 16
  · have h1 : decide ((v : Int) > 16) = true := decide_eq_true (by omega)
    have hE : takeE b 0 0 1 = 0 := by
      unfold takeE
      rw [if_pos rfl]
      by_cases hh : (0 : Int) + 1 ≤ b.length
      · rw [if_pos hh]
      · have : takeV b 0 0 1 = 0 := by unfold takeV; rw [if_neg (fun h => hh h.2)]
        omega
    rw [h1, cond_true, gd_t (by omega), cond_true, if_pos hE]
  · have h1 : decide ((v : Int) > 16) = false := decide_eq_false (by omega)
    rw [h1, cond_false, gd_f (by omega), cond_false]
    unfold takenP
    rw [hv, hq]
    rcases l30 65537 K b hb (by omega) v (by omega) 65537 0 q (takeE b 0 0 1) [] hql (by omega) (by omega) (by simp) with h3 | h3
    · exact h3
    · omega
theorem ok30 : SpecOk Go.Proofs.Tryz.prog 30 S30 := use mixed env3 Go.Proofs.Tryz.func30 (by kernel_rfl) (by
  intro ρ fin args hp K h
  unfold S30 at h
  split at h
  · exact ⟨_, _, _, a30 K _ h⟩
  · cases h)

noncomputable def L4 : List (Nat × Summ) := [(52, adapt [.imm .byte, .keep] .keep S52), (46, adapt [.imm .byte, .keep] .keep S52), (22, adapt [.imm .byte] .keep S22), (27, S27), (43, adapt [.imm .byte] .keep S22), (19, adapt [.imm (.prod .str (.list (.prod .str .str)))] .keep S19), (45, adapt [.imm (.prod .str (.list (.prod .str .str)))] .keep S45), (30, S30)] ++ L3
theorem L4_ok : ∀ p ∈ L4, SpecOk Go.Proofs.Tryz.prog p.1 p.2 :=
  oks_cons ok52 <| oks_cons ok46 <| oks_cons ok22 <| oks_cons ok27 <| oks_cons ok43 <| oks_cons ok19 <| oks_cons ok45 <| oks_cons ok30 L3_ok
noncomputable def E4 : Env := ⟨tabOf 370 ttab, lookS L4⟩
theorem env4 : EnvOk Go.Proofs.Tryz.prog E4 := ⟨tabOk_ok tabTrue, lookS_ok L4_ok⟩
end Go.Ai.Dn
