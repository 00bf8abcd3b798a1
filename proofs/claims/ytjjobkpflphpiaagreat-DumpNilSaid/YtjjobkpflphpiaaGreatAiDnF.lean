/- The second layer: sums, readers' texts, writings. -/
import Derived.Test.YtjjobkpflphpiaaGreatAiDnE
set_option maxRecDepth 100000
set_option linter.unusedVariables false
set_option linter.unusedSimpArgs false
namespace Go.Ai.Dn
noncomputable def ann100 : Nat → Option (List (Nat × Mode)) := lookN [(3, [(10, .keep), (11, .keep), (12, .keep), (5, .keep)])]
noncomputable def pl100 : Nat → Option (List (Nat × Bool) × List Nat) := lookN []
noncomputable def l100_3 {ρ : Type} (fu : Nat) (K : AV → List (Nat × AO) → Nat → Option ρ) (f3 : Nat) (x0 : Int) (x1 : Int) (x2 : Int) (x3 : List UInt8) : Option ρ :=
  loopAt E1 ann100 pl100 fu 0 Go.Proofs.Tryz.f100 [1, 1, 0, 1, 0] K [] f3 (St.mk (22 : Nat)
  [((5 : Nat), AV.int IntKind.u32 x0), ((12 : Nat), AV.int IntKind.i64 x1), ((11 : Nat), AV.int IntKind.i64 x2),
    ((10 : Nat), AV.sl Ty.byte x3)]
  [] (0 : Nat))
theorem e100 {ρ : Type} (fu : Nat) (K : AV → List (Nat × AO) → Nat → Option ρ) (s : Int) (b : List UInt8) :
    aFun E1 ann100 pl100 fu Go.Proofs.Tryz.f100 [AV.int IntKind.u32 s, AV.sl Ty.byte b] [] 0 K =
    l100_3 fu K fu
  (IntKind.wrap IntKind.u32
    (↑(BitVec.toNat (BitVec.ofInt (32 : Nat) (4294967295 : Int) ^^^ BitVec.ofInt (32 : Nat) s)) : Int))
  (0 : Int) (↑(List.length b) : Int) b := by kernel_rfl
theorem s100_3 {ρ : Type} (fu : Nat) (K : AV → List (Nat × AO) → Nat → Option ρ) (f3 : Nat) (x0 : Int) (x1 : Int) (x2 : Int) (x3 : List UInt8) :
    l100_3 fu K  (f3 + 1) x0 x1 x2 x3 =
    bif decide (x1 < x2) then
  bif inb x1 (List.length x3) then
    bif rg x0 (4294967296 : Nat) && rg (↑(UInt8.toNat (List.getD x3 (Int.toNat x1) (0 : UInt8))) : Int) (256 : Nat) then
      l100_3 fu K f3 (↑(carryN (Int.toNat x0) (UInt8.toNat (List.getD x3 (Int.toNat x1) (0 : UInt8)))) : Int)
        (IntKind.wrap IntKind.i64 (x1 + (1 : Int))) x2 x3
    else none
  else none
else
  K
    (AV.int IntKind.u32
      (IntKind.wrap IntKind.u32
        (↑(BitVec.toNat (BitVec.ofInt (32 : Nat) (4294967295 : Int) ^^^ BitVec.ofInt (32 : Nat) x0)) : Int)))
    [] (0 : Nat) := by kernel_rfl
noncomputable def ann144 : Nat → Option (List (Nat × Mode)) := lookN [(3, [(1, .keep), (12, .keep), (13, .keep), (5, .keep)]), (7, [(1, .keep), (12, .keep), (13, .keep), (8, .keep), (7, .keep), (5, .keep)])]
noncomputable def pl144 : Nat → Option (List (Nat × Bool) × List Nat) := lookN []
noncomputable def l144_3 {ρ : Type} (fu : Nat) (K : AV → List (Nat × AO) → Nat → Option ρ) (f3 : Nat) (x0 : Int) (x1 : Int) (x2 : Int) (x3 : List UInt8) : Option ρ :=
  loopAt E1 ann144 pl144 fu 0 Go.Proofs.Tryz.f144 [1, 1, 0, 1, 0] K [] f3 (St.mk (35 : Nat)
  [((5 : Nat), AV.int IntKind.u32 x0), ((13 : Nat), AV.int IntKind.i64 x1), ((12 : Nat), AV.int IntKind.i64 x2),
    ((1 : Nat), AV.sl Ty.byte x3)]
  [] (0 : Nat))
theorem e144 {ρ : Type} (fu : Nat) (K : AV → List (Nat × AO) → Nat → Option ρ) (s : Int) (b : List UInt8) :
    aFun E1 ann144 pl144 fu Go.Proofs.Tryz.f144 [AV.int IntKind.u32 s, AV.sl Ty.byte b] [] 0 K =
    l144_3 fu K fu (IntKind.wrap IntKind.u32 ((4294967295 : Int) - s)) (0 : Int) (↑(List.length b) : Int) b := by kernel_rfl
noncomputable def l144_7 {ρ : Type} (fu : Nat) (K : AV → List (Nat × AO) → Nat → Option ρ) (f3 : Nat) (f7 : Nat) (x0 : Int) (x1 : Int) (x2 : Int) (x3 : Int) (x4 : Int) (x5 : List UInt8) : Option ρ :=
  loopAt E1 ann144 pl144 fu 0 Go.Proofs.Tryz.f144 [1, 1, 0, 1, 0, 0, 1, 1, 0, 0, 1, 1, 1, 0] K [f3] f7 (St.mk (35 : Nat)
  [((5 : Nat), AV.int IntKind.u32 x0), ((7 : Nat), AV.int IntKind.u32 x1), ((8 : Nat), AV.int IntKind.i64 x2),
    ((13 : Nat), AV.int IntKind.i64 x3), ((12 : Nat), AV.int IntKind.i64 x4), ((1 : Nat), AV.sl Ty.byte x5)]
  [] (0 : Nat))
theorem s144_3 {ρ : Type} (fu : Nat) (K : AV → List (Nat × AO) → Nat → Option ρ) (f3 : Nat) (x0 : Int) (x1 : Int) (x2 : Int) (x3 : List UInt8) :
    l144_3 fu K  (f3 + 1) x0 x1 x2 x3 =
    bif decide (x1 < x2) then
  bif inb x1 (List.length x3) then
    l144_7 fu K f3 fu x0 (IntKind.wrap IntKind.u32 (↑(UInt8.toNat (List.getD x3 (Int.toNat x1) (0 : UInt8))) : Int))
      (0 : Int) x1 x2 x3
  else none
else K (AV.int IntKind.u32 (IntKind.wrap IntKind.u32 ((4294967295 : Int) - x0))) [] (0 : Nat) := by kernel_rfl
theorem s144_7 {ρ : Type} (fu : Nat) (K : AV → List (Nat × AO) → Nat → Option ρ) (f3 : Nat) (f7 : Nat) (x0 : Int) (x1 : Int) (x2 : Int) (x3 : Int) (x4 : Int) (x5 : List UInt8) :
    l144_7 fu K f3 (f7 + 1) x0 x1 x2 x3 x4 x5 =
    bif decide (x2 < (8 : Int)) then
  bif
      rg
        (IntKind.wrap IntKind.u32
          (↑(BitVec.toNat (BitVec.ofInt (32 : Nat) x0 ^^^ BitVec.ofInt (32 : Nat) (Int.tmod x1 (2 : Int)))) : Int))
        (4294967296 : Nat) then
    l144_7 fu K f3 f7
      (↑(shiftN
            (Int.toNat
              (IntKind.wrap IntKind.u32
                (↑(BitVec.toNat (BitVec.ofInt (32 : Nat) x0 ^^^ BitVec.ofInt (32 : Nat) (Int.tmod x1 (2 : Int)))) :
                  Int)))) :
        Int)
      (IntKind.wrap IntKind.u32 (Int.tdiv x1 (2 : Int))) (IntKind.wrap IntKind.i64 (x2 + (1 : Int))) x3 x4 x5
  else none
else l144_3 fu K f3 x0 (IntKind.wrap IntKind.i64 (x3 + (1 : Int))) x4 x5 := by kernel_rfl
noncomputable def ann64 : Nat → Option (List (Nat × Mode)) := lookN []
noncomputable def pl64 : Nat → Option (List (Nat × Bool) × List Nat) := lookN []
theorem e64 {ρ : Type} (fu : Nat) (K : AV → List (Nat × AO) → Nat → Option ρ) (b : List UInt8) (a : Int) (e : Int) :
    aFun E1 ann64 pl64 fu Go.Proofs.Tryz.f64 [AV.ptr (0 : Nat) (0 : Nat)] [((0 : Nat), AO.box [AV.sl Ty.byte b, AV.int IntKind.i64 a, AV.int IntKind.i64 e])] 1 K =
    bif rdOk b a && rg (1 : Int) (9 : Nat) then
  K (AV.int IntKind.u8 (IntKind.wrap IntKind.u8 (takeV b a e (1 : Int))))
    [((0 : Nat),
        AO.box
          [AV.sl Ty.byte b, AV.int IntKind.i64 (takeA b a e (1 : Int)), AV.int IntKind.i64 (takeE b a e (1 : Int))])]
    (1 : Nat)
else none := by kernel_rfl
noncomputable def ann67 : Nat → Option (List (Nat × Mode)) := lookN []
noncomputable def pl67 : Nat → Option (List (Nat × Bool) × List Nat) := lookN []
theorem e67 {ρ : Type} (fu : Nat) (K : AV → List (Nat × AO) → Nat → Option ρ) (b : List UInt8) (a : Int) (e : Int) :
    aFun E1 ann67 pl67 fu Go.Proofs.Tryz.f67 [AV.ptr (0 : Nat) (0 : Nat)] [((0 : Nat), AO.box [AV.sl Ty.byte b, AV.int IntKind.i64 a, AV.int IntKind.i64 e])] 1 K =
    bif rdOk b a && rg (4 : Int) (9 : Nat) then
  K (AV.int IntKind.u32 (IntKind.wrap IntKind.u32 (takeV b a e (4 : Int))))
    [((0 : Nat),
        AO.box
          [AV.sl Ty.byte b, AV.int IntKind.i64 (takeA b a e (4 : Int)), AV.int IntKind.i64 (takeE b a e (4 : Int))])]
    (1 : Nat)
else none := by kernel_rfl
noncomputable def ann66 : Nat → Option (List (Nat × Mode)) := lookN []
noncomputable def pl66 : Nat → Option (List (Nat × Bool) × List Nat) := lookN [(9, [(0, true), (1, true), (2, true), (3, true), (6, true), (7, true), (8, true), (4, true), (5, true), (9, true), (10, true), (11, true), (12, true)], [0]), (15, [(0, true), (1, true), (2, true), (4, true), (5, true), (6, true), (8, true), (10, true), (11, true), (12, true), (3, true), (7, true), (9, true), (13, true), (14, true), (15, false), (16, true)], [0])]
theorem e66 {ρ : Type} (fu : Nat) (K : AV → List (Nat × AO) → Nat → Option ρ) (n : Int) (b : List UInt8) (a : Int) (e : Int) :
    aFun E1 ann66 pl66 fu Go.Proofs.Tryz.f66 [AV.ptr (0 : Nat) (0 : Nat), AV.int IntKind.i64 n] [((0 : Nat), AO.box [AV.sl Ty.byte b, AV.int IntKind.i64 a, AV.int IntKind.i64 e])] 1 K =
    bif rdOk b a && rg (1 : Int) (9 : Nat) then
  bif takeE b a e (1 : Int) != (0 : Int) then
    K (AV.str [])
      [((0 : Nat),
          AO.box
            [AV.sl Ty.byte b, AV.int IntKind.i64 (takeA b a e (1 : Int)), AV.int IntKind.i64 (takeE b a e (1 : Int))])]
      (1 : Nat)
  else
    bif decide (IntKind.wrap IntKind.i64 (takeV b a e (1 : Int)) > if (0 : Int) > n then (0 : Int) else n) then
      K (AV.str []) [((0 : Nat), AO.box [AV.sl Ty.byte b, AV.int IntKind.i64 a, AV.int IntKind.i64 (4 : Int)])]
        (1 : Nat)
    else
      bif
          decide
            (IntKind.wrap IntKind.i64 (takeV b a e (1 : Int)) >
              IntKind.wrap IntKind.i64 ((↑(List.length b) : Int) - takeA b a e (1 : Int))) then
        K (AV.str []) [((0 : Nat), AO.box [AV.sl Ty.byte b, AV.int IntKind.i64 a, AV.int IntKind.i64 (2 : Int)])]
          (1 : Nat)
      else
        bif takeE b a e (1 : Int) != (0 : Int) then
          K (AV.str [])
            [((0 : Nat), AO.box [AV.sl Ty.byte b, AV.int IntKind.i64 a, AV.int IntKind.i64 (takeE b a e (1 : Int))])]
            (1 : Nat)
        else
          bif
              decide
                  ((0 : Int) ≤
                    IntKind.wrap IntKind.i64
                      (takeA b a e (1 : Int) + IntKind.wrap IntKind.i64 (takeV b a e (1 : Int)))) &&
                decide
                  (IntKind.wrap IntKind.i64 (takeA b a e (1 : Int) + IntKind.wrap IntKind.i64 (takeV b a e (1 : Int))) ≤
                    (↑(List.length b) : Int)) then
            bif
                decide
                    ((0 : Int) ≤
                      IntKind.wrap IntKind.i64
                        (IntKind.wrap IntKind.i64
                            (takeA b a e (1 : Int) + IntKind.wrap IntKind.i64 (takeV b a e (1 : Int))) -
                          IntKind.wrap IntKind.i64 (takeV b a e (1 : Int)))) &&
                  decide
                    (IntKind.wrap IntKind.i64
                        (IntKind.wrap IntKind.i64
                            (takeA b a e (1 : Int) + IntKind.wrap IntKind.i64 (takeV b a e (1 : Int))) -
                          IntKind.wrap IntKind.i64 (takeV b a e (1 : Int))) ≤
                      (↑(Int.toNat
                            (IntKind.wrap IntKind.i64
                              (takeA b a e (1 : Int) + IntKind.wrap IntKind.i64 (takeV b a e (1 : Int))))) :
                        Int)) then
              K
                (AV.str
                  (List.drop
                    (Int.toNat
                      (IntKind.wrap IntKind.i64
                        (IntKind.wrap IntKind.i64
                            (takeA b a e (1 : Int) + IntKind.wrap IntKind.i64 (takeV b a e (1 : Int))) -
                          IntKind.wrap IntKind.i64 (takeV b a e (1 : Int)))))
                    (List.take
                      (Int.toNat
                        (IntKind.wrap IntKind.i64
                          (takeA b a e (1 : Int) + IntKind.wrap IntKind.i64 (takeV b a e (1 : Int)))))
                      b)))
                [((0 : Nat),
                    AO.box
                      [AV.sl Ty.byte b,
                        AV.int IntKind.i64
                          (IntKind.wrap IntKind.i64
                            (takeA b a e (1 : Int) + IntKind.wrap IntKind.i64 (takeV b a e (1 : Int)))),
                        AV.int IntKind.i64 (takeE b a e (1 : Int))])]
                (1 : Nat)
            else none
          else none
else none := by kernel_rfl
noncomputable def ann44 : Nat → Option (List (Nat × Mode)) := lookN []
noncomputable def pl44 : Nat → Option (List (Nat × Bool) × List Nat) := lookN [(3, [(1, true), (0, false), (2, false)], []), (6, [(1, true), (0, false), (2, false)], []), (9, [(1, true), (0, false), (2, false)], []), (12, [(0, true), (2, true), (1, false), (3, false)], [])]
theorem e44 {ρ : Type} (fu : Nat) (K : AV → List (Nat × AO) → Nat → Option ρ) (n : Int) (b : List UInt8) (a : Int) (e : Int) :
    aFun E1 ann44 pl44 fu Go.Proofs.Tryz.f44 [AV.agg [AV.sl Ty.byte b, AV.int IntKind.i64 a, AV.int IntKind.i64 e], AV.int IntKind.i64 n] [] 0 K =
    bif rdOk b a && rg (1 : Int) (9 : Nat) then
  bif takeE b a e (1 : Int) != (0 : Int) then
    K
      (AV.tup
        [AV.str [],
          AV.agg
            [AV.sl Ty.byte b, AV.int IntKind.i64 (takeA b a e (1 : Int)), AV.int IntKind.i64 (takeE b a e (1 : Int))]])
      [] (0 : Nat)
  else
    bif decide (IntKind.wrap IntKind.i64 (takeV b a e (1 : Int)) > if (0 : Int) > n then (0 : Int) else n) then
      K (AV.tup [AV.str [], AV.agg [AV.sl Ty.byte b, AV.int IntKind.i64 a, AV.int IntKind.i64 (4 : Int)]]) [] (0 : Nat)
    else
      bif
          decide
            (IntKind.wrap IntKind.i64 (takeV b a e (1 : Int)) >
              IntKind.wrap IntKind.i64 ((↑(List.length b) : Int) - takeA b a e (1 : Int))) then
        K (AV.tup [AV.str [], AV.agg [AV.sl Ty.byte b, AV.int IntKind.i64 a, AV.int IntKind.i64 (2 : Int)]]) []
          (0 : Nat)
      else
        bif
            decide
                ((0 : Int) ≤
                  IntKind.wrap IntKind.i64
                    (takeA b a e (1 : Int) + IntKind.wrap IntKind.i64 (takeV b a e (1 : Int)))) &&
              decide
                (IntKind.wrap IntKind.i64 (takeA b a e (1 : Int) + IntKind.wrap IntKind.i64 (takeV b a e (1 : Int))) ≤
                  (↑(List.length b) : Int)) then
          bif
              decide ((0 : Int) ≤ takeA b a e (1 : Int)) &&
                decide
                  (takeA b a e (1 : Int) ≤
                    (↑(Int.toNat
                          (IntKind.wrap IntKind.i64
                            (takeA b a e (1 : Int) + IntKind.wrap IntKind.i64 (takeV b a e (1 : Int))))) :
                      Int)) then
            K
              (AV.tup
                [AV.str
                    (List.drop (Int.toNat (takeA b a e (1 : Int)))
                      (List.take
                        (Int.toNat
                          (IntKind.wrap IntKind.i64
                            (takeA b a e (1 : Int) + IntKind.wrap IntKind.i64 (takeV b a e (1 : Int)))))
                        b)),
                  AV.agg
                    [AV.sl Ty.byte b,
                      AV.int IntKind.i64
                        (IntKind.wrap IntKind.i64
                          (takeA b a e (1 : Int) + IntKind.wrap IntKind.i64 (takeV b a e (1 : Int)))),
                      AV.int IntKind.i64 (takeE b a e (1 : Int))]])
              [] (0 : Nat)
          else none
        else none
else none := by kernel_rfl
noncomputable def ann48 : Nat → Option (List (Nat × Mode)) := lookN [(2, [(5, .keep), (0, .keep), (1, .keep)])]
noncomputable def pl48 : Nat → Option (List (Nat × Bool) × List Nat) := lookN []
noncomputable def l48_2 {ρ : Type} (fu : Nat) (K : AV → List (Nat × AO) → Nat → Option ρ) (f2 : Nat) (x0 : List UInt8) (x1 : List UInt8) (x2 : Int) : Option ρ :=
  loopAt E1 ann48 pl48 fu 0 Go.Proofs.Tryz.f48 [1, 0, 1, 0] K [] f2 (St.mk (20 : Nat) [((1 : Nat), AV.str x0), ((0 : Nat), AV.str x1), ((5 : Nat), AV.int IntKind.i64 x2)] [] (0 : Nat))
theorem e48 {ρ : Type} (fu : Nat) (K : AV → List (Nat × AO) → Nat → Option ρ) (a : List UInt8) (b : List UInt8) :
    aFun E1 ann48 pl48 fu Go.Proofs.Tryz.f48 [AV.str a, AV.str b] [] 0 K =
    l48_2 fu K fu b a (↑(List.length a) : Int) := by kernel_rfl
theorem s48_2 {ρ : Type} (fu : Nat) (K : AV → List (Nat × AO) → Nat → Option ρ) (f2 : Nat) (x0 : List UInt8) (x1 : List UInt8) (x2 : Int) :
    l48_2 fu K  (f2 + 1) x0 x1 x2 =
    bif decide (x2 > (0 : Int)) then
  bif decide ((0 : Int) ≤ x2) && decide (x2 ≤ (↑(List.length x1) : Int)) then
    bif List.take (List.length (List.take (Int.toNat x2) x1)) x0 == List.take (Int.toNat x2) x1 then
      bif decide ((0 : Int) ≤ x2) && decide (x2 ≤ (↑(List.length x1) : Int)) then
        K (AV.str (List.take (Int.toNat x2) x1)) [] (0 : Nat)
      else none
    else l48_2 fu K f2 x0 x1 (IntKind.wrap IntKind.i64 (x2 - (1 : Int)))
  else none
else K (AV.str []) [] (0 : Nat) := by kernel_rfl
noncomputable def ann28 : Nat → Option (List (Nat × Mode)) := lookN []
noncomputable def pl28 : Nat → Option (List (Nat × Bool) × List Nat) := lookN []
theorem e28 {ρ : Type} (fu : Nat) (K : AV → List (Nat × AO) → Nat → Option ρ) (a : List UInt8) (b : List UInt8) :
    aFun E1 ann28 pl28 fu Go.Proofs.Tryz.f28 [AV.str a, AV.str b] [] 0 K =
    K (AV.bool (List.take (List.length b) a == b)) [] (0 : Nat) := by kernel_rfl
noncomputable def ann29 : Nat → Option (List (Nat × Mode)) := lookN []
noncomputable def pl29 : Nat → Option (List (Nat × Bool) × List Nat) := lookN []
theorem e29 {ρ : Type} (fu : Nat) (K : AV → List (Nat × AO) → Nat → Option ρ) (a : List UInt8) :
    aFun E1 ann29 pl29 fu Go.Proofs.Tryz.f29 [AV.sl Ty.byte a] [] 0 K =
    bif decide (List.length a ≤ lim) then
  K (AV.ptr (0 : Nat) (0 : Nat))
    [((0 : Nat), AO.box [AV.own (1 : Nat), AV.int IntKind.i64 (0 : Int), AV.int IntKind.i64 (0 : Int)]),
      ((1 : Nat), AO.row Ty.byte a)]
    (2 : Nat)
else none := by kernel_rfl
noncomputable def ann50 : Nat → Option (List (Nat × Mode)) := lookN []
noncomputable def pl50 : Nat → Option (List (Nat × Bool) × List Nat) := lookN []
theorem e50 {ρ : Type} (fu : Nat) (K : AV → List (Nat × AO) → Nat → Option ρ) (b : List UInt8) (n : Int) :
    aFun E1 ann50 pl50 5 Go.Proofs.Tryz.f50 [AV.sl Ty.byte b, AV.int IntKind.u8 n, AV.int IntKind.i64 (1 : Int)] [] 0 K =
    bif decide (List.length b ≤ lim) then
  bif lg b && rg (1 : Int) (1000 : Nat) then
    bif decide (List.length b + (1 : Nat) ≤ lim) then
      K (AV.own (0 : Nat))
        [((0 : Nat),
            AO.row Ty.byte
              (b ++
                [UInt8.ofNat (Int.toNat (IntKind.wrap IntKind.u8 (Int.fdiv (IntKind.wrap IntKind.u64 n) (1 : Int))))]))]
        (1 : Nat)
    else none
  else none
else none := by kernel_rfl
noncomputable def ann99 : Nat → Option (List (Nat × Mode)) := lookN []
noncomputable def pl99 : Nat → Option (List (Nat × Bool) × List Nat) := lookN []
theorem e99 {ρ : Type} (fu : Nat) (K : AV → List (Nat × AO) → Nat → Option ρ) (b : List UInt8) (n : Int) :
    aFun E1 ann99 pl99 6 Go.Proofs.Tryz.f99 [AV.sl Ty.byte b, AV.int IntKind.u32 n, AV.int IntKind.i64 (4 : Int)] [] 0 K =
    bif decide (List.length b ≤ lim) then
  bif lg b && rg (4 : Int) (1000 : Nat) then
    bif decide (List.length b + (1 : Nat) ≤ lim) then
      bif
          decide
            (List.length
                  (b ++
                    [UInt8.ofNat
                        (Int.toNat
                          (IntKind.wrap IntKind.u8 (Int.fdiv (IntKind.wrap IntKind.u64 n) (16777216 : Int))))]) +
                (1 : Nat) ≤
              lim) then
        bif
            decide
              (List.length
                    (b ++
                        [UInt8.ofNat
                            (Int.toNat
                              (IntKind.wrap IntKind.u8 (Int.fdiv (IntKind.wrap IntKind.u64 n) (16777216 : Int))))] ++
                      [UInt8.ofNat
                          (Int.toNat
                            (IntKind.wrap IntKind.u8 (Int.fdiv (IntKind.wrap IntKind.u64 n) (65536 : Int))))]) +
                  (1 : Nat) ≤
                lim) then
          bif
              decide
                (List.length
                      (b ++
                            [UInt8.ofNat
                                (Int.toNat
                                  (IntKind.wrap IntKind.u8
                                    (Int.fdiv (IntKind.wrap IntKind.u64 n) (16777216 : Int))))] ++
                          [UInt8.ofNat
                              (Int.toNat
                                (IntKind.wrap IntKind.u8 (Int.fdiv (IntKind.wrap IntKind.u64 n) (65536 : Int))))] ++
                        [UInt8.ofNat
                            (Int.toNat
                              (IntKind.wrap IntKind.u8 (Int.fdiv (IntKind.wrap IntKind.u64 n) (256 : Int))))]) +
                    (1 : Nat) ≤
                  lim) then
            K (AV.own (0 : Nat))
              [((0 : Nat),
                  AO.row Ty.byte
                    (b ++
                            [UInt8.ofNat
                                (Int.toNat
                                  (IntKind.wrap IntKind.u8
                                    (Int.fdiv (IntKind.wrap IntKind.u64 n) (16777216 : Int))))] ++
                          [UInt8.ofNat
                              (Int.toNat
                                (IntKind.wrap IntKind.u8 (Int.fdiv (IntKind.wrap IntKind.u64 n) (65536 : Int))))] ++
                        [UInt8.ofNat
                            (Int.toNat
                              (IntKind.wrap IntKind.u8 (Int.fdiv (IntKind.wrap IntKind.u64 n) (256 : Int))))] ++
                      [UInt8.ofNat
                          (Int.toNat (IntKind.wrap IntKind.u8 (Int.fdiv (IntKind.wrap IntKind.u64 n) (1 : Int))))]))]
              (1 : Nat)
          else none
        else none
      else none
    else none
  else none
else none := by kernel_rfl
noncomputable def ann47 : Nat → Option (List (Nat × Mode)) := lookN [(3, [(2, .keep), (0, .keep), (8, .keep), (1, .keep), (7, .keep)])]
noncomputable def pl47 : Nat → Option (List (Nat × Bool) × List Nat) := lookN []
noncomputable def l47_3 {ρ : Type} (fu : Nat) (K : AV → List (Nat × AO) → Nat → Option ρ) (f3 : Nat) (x0 : Int) (x1 : Int) (x2 : List UInt8) (x3 : Int) (x4 : List UInt8) : Option ρ :=
  loopAt E1 ann47 pl47 fu 0 Go.Proofs.Tryz.f47 [1, 1, 0, 1, 0] K [] f3 (St.mk (35 : Nat)
  [((7 : Nat), AV.own (0 : Nat)), ((1 : Nat), AV.int IntKind.u64 x0), ((8 : Nat), AV.int IntKind.i64 x1),
    ((0 : Nat), AV.sl Ty.byte x2), ((2 : Nat), AV.int IntKind.i64 x3)]
  [((0 : Nat), AO.row Ty.byte x4)] (1 : Nat))
theorem e47 {ρ : Type} (fu : Nat) (K : AV → List (Nat × AO) → Nat → Option ρ) (b : List UInt8) (n : Int) (k : Int) :
    aFun E1 ann47 pl47 fu Go.Proofs.Tryz.f47 [AV.sl Ty.byte b, AV.int IntKind.u64 n, AV.int IntKind.i64 k] [] 0 K =
    l47_3 fu K fu n (0 : Int) b k [] := by kernel_rfl
theorem s47_3 {ρ : Type} (fu : Nat) (K : AV → List (Nat × AO) → Nat → Option ρ) (f3 : Nat) (x0 : Int) (x1 : Int) (x2 : List UInt8) (x3 : Int) (x4 : List UInt8) :
    l47_3 fu K  (f3 + 1) x0 x1 x2 x3 x4 =
    bif decide (x1 < (8 : Int)) then
  bif decide ((1 : Nat) + List.length x4 ≤ lim) then
    l47_3 fu K f3 (IntKind.wrap IntKind.u64 (Int.tdiv x0 (256 : Int))) (IntKind.wrap IntKind.i64 (x1 + (1 : Int))) x2 x3
      ([UInt8.ofNat (Int.toNat (IntKind.wrap IntKind.u8 (Int.tmod x0 (256 : Int))))] ++ x4)
  else none
else
  bif decide ((0 : Nat) + List.length x2 ≤ lim) then
    bif
        decide ((0 : Int) ≤ IntKind.wrap IntKind.i64 ((8 : Int) - x3)) &&
          decide (IntKind.wrap IntKind.i64 ((8 : Int) - x3) ≤ (↑(List.length x4) : Int)) then
      bif
          decide
            (List.length x2 +
                List.length
                  (List.drop (Int.toNat (IntKind.wrap IntKind.i64 ((8 : Int) - x3))) (List.take (List.length x4) x4)) ≤
              lim) then
        K (AV.own (0 : Nat))
          [((0 : Nat),
              AO.row Ty.byte
                (x2 ++
                  List.drop (Int.toNat (IntKind.wrap IntKind.i64 ((8 : Int) - x3))) (List.take (List.length x4) x4)))]
          (1 : Nat)
      else none
    else none
  else none := by kernel_rfl

/-! Sums. -/
def moreN (r : Nat) (b : List UInt8) : Nat := b.foldl (fun r c => carryN r c.toNat) r
theorem moreN_lt : ∀ (b : List UInt8) (r : Nat), r < 4294967296 → moreN r b < 4294967296
  | [], _, h => h
  | c :: b, r, h => moreN_lt b _ (carryN_lt h (by have := UInt8.toNat_lt c; omega))
def sumN (s : Nat) (b : List UInt8) : Nat := 4294967295 - moreN (4294967295 - s) b
theorem sumN_lt (s : Nat) (b : List UInt8) : sumN s b < 4294967296 := by unfold sumN; omega

theorem not_u32 {a : Nat} (ha : a < 4294967296) : IntKind.wrap .u32 (((BitVec.ofInt 32 (4294967295 : Int) ^^^ BitVec.ofInt 32 (a : Int)).toNat : Nat) : Int) = ((4294967295 - a : Nat) : Int) := by
  have h1 : BitVec.ofInt 32 (4294967295 : Int) = BitVec.allOnes 32 := by decide
  have h2 : (BitVec.allOnes 32 ^^^ BitVec.ofInt 32 (a : Int)) = ~~~ BitVec.ofInt 32 (a : Int) := by
    rw [BitVec.xor_comm, BitVec.xor_allOnes]
  rw [h1, h2, BitVec.toNat_not, bv_nat 32 a ha]
  rw [wrap_u32 (by omega) (by omega)]

theorem l100 {ρ : Type} (fu : Nat) (K : AV → List (Nat × AO) → Nat → Option ρ) (b : List UInt8) (hb : b.length ≤ 4294967296) : ∀ (f k r : Nat), b.length + 1 ≤ k + f → k ≤ b.length → r < 4294967296 →
    l100_3 fu K f (r : Int) (k : Int) (b.length : Int) b = K (.int .u32 ((4294967295 - moreN r (b.drop k) : Nat) : Int)) [] 0 ∨ f = 0
  | 0, _, _, _, _, _ => .inr rfl
  | f + 1, k, r, hf, hk, hr => by
    left
    rw [s100_3]
    by_cases h : k < b.length
    · have h1 : decide ((k : Int) < (b.length : Int)) = true := by simp; omega
      have hc := UInt8.toNat_lt b[k]
      rw [h1, cond_true, inb_nat h, cond_true, Int.toNat_natCast, Int.toNat_natCast, getD_of h, rg_t hr, rg_t (k := b[k].toNat) (by omega), Bool.and_true, cond_true, wrap_i64 (n := (k : Int) + 1) (by omega) (by omega)]
      rcases l100 fu K b hb f (k + 1) _ (by omega) (by omega) (carryN_lt hr (c := b[k].toNat) (by omega)) with h3 | h3
      · rw [show ((k : Int) + 1) = ((k + 1 : Nat) : Int) by omega, h3]
        have : b.drop k = b[k] :: b.drop (k + 1) := List.drop_eq_getElem_cons h
        rw [this]
        rfl
      · omega
    · have h1 : decide ((k : Int) < (b.length : Int)) = false := by simp; omega
      rw [h1, cond_false, List.drop_eq_nil_of_le (by omega), not_u32 hr]
      rfl

noncomputable def v100 {ρ : Type} (K : AV → List (Nat × AO) → Nat → Option ρ) (s : Int) (b : List UInt8) : Option ρ := bif rg s 4294967296 && lg b then K (.int .u32 ((sumN s.toNat b : Nat) : Int)) [] 0 else none
noncomputable def S100 : Summ := fun ρ args hp K => match args, hp with
  | [.int .u32 s, .sl .byte b], [] => v100 K s b
  | _, _ => none
theorem a100 {ρ : Type} {fin : ρ} (K : AV → List (Nat × AO) → Nat → Option ρ) (s : Int) (b : List UInt8) (h : v100 K s b = some fin) : aFun E1 ann100 pl100 (b.length + 1) Go.Proofs.Tryz.f100 [.int .u32 s, .sl .byte b] [] 0 K = some fin := by
  obtain ⟨hg, h⟩ := bif_t h
  rw [Bool.and_eq_true] at hg
  obtain ⟨s, rfl, hs⟩ := rg_is hg.1
  rw [e100, ← h, not_u32 hs]
  rcases l100 (b.length + 1) K b (lg_is hg.2) (b.length + 1) 0 (4294967295 - s) (by omega) (by omega) (by omega) with h3 | h3
  · rw [List.drop_zero] at h3
    exact h3
  · omega
theorem ok100 : SpecOk Go.Proofs.Tryz.prog 100 S100 := use mixed env1 Go.Proofs.Tryz.func100 (by kernel_rfl) (by
  intro ρ fin args hp K h
  unfold S100 at h
  split at h
  · exact ⟨_, _, _, a100 K _ _ h⟩
  · cases h)

def refN : Nat → Nat → Nat → Nat
  | 0, r, _ => r
  | k + 1, r, c => refN k (shiftN (r ^^^ (c % 2))) (c / 2)
theorem shift_xor (r c : Nat) : shiftN (r ^^^ c) = shiftN (r ^^^ (c % 2)) ^^^ (c / 2) := by
  have h1 : (r ^^^ c) % 2 = (r ^^^ (c % 2)) % 2 := by
    have e1 := @Nat.xor_mod_two_eq_one r c
    have e2 := @Nat.xor_mod_two_eq_one r (c % 2)
    have e3 : c % 2 % 2 = c % 2 := by omega
    rw [e3] at e2
    have e4 : ((r ^^^ c) % 2 = 1) ↔ ((r ^^^ (c % 2)) % 2 = 1) := e1.trans e2.symm
    omega
  have h2 : (r ^^^ c) / 2 = (r / 2) ^^^ (c / 2) := Nat.xor_div_two
  have h3 : (r ^^^ (c % 2)) / 2 = r / 2 := by
    rw [Nat.xor_div_two, show c % 2 / 2 = 0 by omega, Nat.xor_zero]
  unfold shiftN
  rw [h1, h2, h3]
  split
  · rw [Nat.xor_assoc, Nat.xor_assoc, Nat.xor_comm (c / 2)]
  · rfl
theorem refN_eq : ∀ (k r c : Nat), c < 2 ^ k → refN k r c = iter shiftN k (r ^^^ c)
  | 0, r, c, h => by
    have : c = 0 := by simpa using h
    subst this
    rw [Nat.xor_zero]; rfl
  | k + 1, r, c, h => by
    rw [Nat.pow_succ] at h
    rw [refN, refN_eq k _ _ (by omega), ← shift_xor]
    rfl

theorem l144i {ρ : Type} (fu : Nat) (K : AV → List (Nat × AO) → Nat → Option ρ) (f3 : Nat) (i n : Int) (b : List UInt8) (g : Nat) : ∀ (k r c : Nat), r < 4294967296 → c < 256 → k ≤ 8 →
    l144_7 fu K f3 (g + k + 1) (r : Int) (c : Int) ((8 - k : Nat) : Int) i n b = l144_3 fu K f3 ((refN k r c : Nat) : Int) (IntKind.wrap .i64 (i + 1)) n b
  | 0, r, c, hr, hc, hk => by
    rw [s144_7]; rfl
  | k + 1, r, c, hr, hc, hk => by
    rw [s144_7]
    have h1 : decide (((8 - (k + 1) : Nat) : Int) < 8) = true := by simp; omega
    have h2 : IntKind.wrap .i64 (((8 - (k + 1) : Nat) : Int) + 1) = ((8 - k : Nat) : Int) := by rw [wrap_i64 (by omega) (by omega)]; omega
    have hm : Int.tmod (c : Int) 2 = ((c % 2 : Nat) : Int) := by rw [Int.tmod_eq_emod_of_nonneg (by omega)]; omega
    have hd : IntKind.wrap .u32 (Int.tdiv (c : Int) 2) = ((c / 2 : Nat) : Int) := by rw [Int.tdiv_eq_ediv_of_nonneg (by omega), wrap_u32 (by omega) (by omega)]; omega
    have hx : r ^^^ (c % 2) < 4294967296 := Nat.xor_lt_two_pow (n := 32) hr (by omega)
    rw [h1, cond_true, h2, hm, hd, xor_u32 hr (by omega), rg_t hx, cond_true, Int.toNat_natCast]
    refine (l144i fu K f3 i n b g k _ _ (shiftN_lt hx) (by omega) (by omega)).trans ?_
    rfl

theorem l144 {ρ : Type} (g : Nat) (K : AV → List (Nat × AO) → Nat → Option ρ) (b : List UInt8) (hb : b.length ≤ 4294967296) : ∀ (f k r : Nat), b.length + 1 ≤ k + f → k ≤ b.length → r < 4294967296 →
    l144_3 (g + 8 + 1) K f (r : Int) (k : Int) (b.length : Int) b = K (.int .u32 ((4294967295 - moreN r (b.drop k) : Nat) : Int)) [] 0 ∨ f = 0
  | 0, _, _, _, _, _ => .inr rfl
  | f + 1, k, r, hf, hk, hr => by
    left
    rw [s144_3]
    by_cases h : k < b.length
    · have h1 : decide ((k : Int) < (b.length : Int)) = true := by simp; omega
      have hc := UInt8.toNat_lt b[k]
      have hl := l144i (g + 8 + 1) K f (k : Int) (b.length : Int) b g 8 r b[k].toNat hr (by omega) (by omega)
      have hc' : refN 8 r b[k].toNat = carryN r b[k].toNat := refN_eq 8 r _ (by omega)
      rw [hc'] at hl
      rw [h1, cond_true, inb_nat h, cond_true, Int.toNat_natCast, getD_of h, wrap_u32 (n := ((b[k].toNat : Nat) : Int)) (by omega) (by omega)]
      refine hl.trans ?_
      rw [wrap_i64 (n := (k : Int) + 1) (by omega) (by omega)]
      rcases l144 g K b hb f (k + 1) _ (by omega) (by omega) (carryN_lt hr (c := b[k].toNat) (by omega)) with h3 | h3
      · rw [show ((k : Int) + 1) = ((k + 1 : Nat) : Int) by omega, h3]
        have : b.drop k = b[k] :: b.drop (k + 1) := List.drop_eq_getElem_cons h
        rw [this]
        rfl
      · omega
    · have h1 : decide ((k : Int) < (b.length : Int)) = false := by simp; omega
      rw [h1, cond_false, List.drop_eq_nil_of_le (by omega), wrap_u32 (by omega) (by omega)]
      show _ = K (.int .u32 ((4294967295 - r : Nat) : Int)) [] 0
      rw [show (4294967295 : Int) - (r : Int) = ((4294967295 - r : Nat) : Int) by omega]
noncomputable def S144 : Summ := S100
theorem a144 {ρ : Type} {fin : ρ} (K : AV → List (Nat × AO) → Nat → Option ρ) (s : Int) (b : List UInt8) (h : v100 K s b = some fin) : aFun E1 ann144 pl144 (b.length + 8 + 1) Go.Proofs.Tryz.f144 [.int .u32 s, .sl .byte b] [] 0 K = some fin := by
  obtain ⟨hg, h⟩ := bif_t h
  rw [Bool.and_eq_true] at hg
  obtain ⟨s, rfl, hs⟩ := rg_is hg.1
  rw [e144, ← h, wrap_u32 (by omega) (by omega), show (4294967295 : Int) - (s : Int) = ((4294967295 - s : Nat) : Int) by omega]
  rcases l144 b.length K b (lg_is hg.2) (b.length + 8 + 1) 0 (4294967295 - s) (by omega) (by omega) (by omega) with h3 | h3
  · rw [List.drop_zero] at h3
    exact h3
  · omega
theorem ok144 : SpecOk Go.Proofs.Tryz.prog 144 S100 := use mixed env1 Go.Proofs.Tryz.func144 (by kernel_rfl) (by
  intro ρ fin args hp K h
  unfold S100 at h
  split at h
  · exact ⟨_, _, _, a144 K _ _ h⟩
  · cases h)

/-! Readers. -/
theorem beF_lt : ∀ (l : List UInt8) (v k : Nat), v < 256 ^ k → beF v l < 256 ^ (k + l.length)
  | [], v, k, h => h
  | c :: l, v, k, h => by
    have := beF_lt l (256 * v + c.toNat) (k + 1) (step_lt c h)
    rw [show k + (c :: l).length = k + 1 + l.length by simp; omega]
    exact this
/-- What a reader's number is. -/
theorem take_is (b : List UInt8) (k : Nat) (e : Int) (n : Nat) (hk : k ≤ b.length) (hn : n ≤ 8) :
    (takeE b k e n = 0 → k + n ≤ b.length ∧ e = 0 ∧ takeA b k e n = ((k + n : Nat) : Int)) ∧ (takeE b k e n ≠ 0 → takeA b k e n = k) ∧ ∃ v : Nat, takeV b k e n = v ∧ v < 256 ^ n := by
  refine ⟨fun h => ?_, fun h => ?_, ?_⟩
  · unfold takeE at h
    split at h
    · rename_i he
      split at h
      · rename_i hl
        refine ⟨by omega, he, ?_⟩
        rw [takeA, if_pos ⟨he, hl⟩]; omega
      · omega
    · exact absurd h (by assumption)
  · unfold takeE at h
    rw [takeA, if_neg]
    rintro ⟨h1, h2⟩
    rw [if_pos h1, if_pos h2] at h
    exact h rfl
  · unfold takeV
    split
    · refine ⟨_, rfl, ?_⟩
      have := beF_lt ((b.drop (k : Int).toNat).take (n : Int).toNat) 0 0 (by simp)
      refine Nat.lt_of_lt_of_le this (Nat.pow_le_pow_right (by omega) ?_)
      simp; omega
    · exact ⟨0, rfl, Nat.pow_pos (by omega)⟩

theorem rg19 : rg (1 : Int) (9 : Nat) = true := gd_t ⟨by omega, by omega⟩
theorem rg49 : rg (4 : Int) (9 : Nat) = true := gd_t ⟨by omega, by omega⟩
noncomputable def vGet {ρ : Type} (K : AV → List (Nat × AO) → Nat → Option ρ) (q : IntKind) (b : List UInt8) (a e n : Int) : Option ρ := bif rdOk b a then K (.int q (takeV b a e n)) [(0, .box [.sl .byte b, .int .i64 (takeA b a e n), .int .i64 (takeE b a e n)])] 1 else none
noncomputable def S64 : Summ := fun ρ args hp K => match args, hp with
  | [.ptr 0 0], [(0, .box [.sl .byte b, .int .i64 a, .int .i64 e])] => vGet K .u8 b a e 1
  | _, _ => none
noncomputable def S67 : Summ := fun ρ args hp K => match args, hp with
  | [.ptr 0 0], [(0, .box [.sl .byte b, .int .i64 a, .int .i64 e])] => vGet K .u32 b a e 4
  | _, _ => none
theorem a64 {ρ : Type} {fin : ρ} (K : AV → List (Nat × AO) → Nat → Option ρ) (b : List UInt8) (a e : Int) (h : vGet K .u8 b a e 1 = some fin) : aFun E1 ann64 pl64 9 Go.Proofs.Tryz.f64 [.ptr 0 0] [(0, .box [.sl .byte b, .int .i64 a, .int .i64 e])] 1 K = some fin := by
  obtain ⟨hg, h⟩ := bif_t h
  obtain ⟨k, rfl, hk, hl⟩ := rdOk_is hg
  obtain ⟨_, _, v, hv, hlt⟩ := take_is b k e 1 hk (by omega)
  rw [e64, hg, rg19, ← h]
  have hv : takeV b k e 1 = v := hv
  rw [hv, wrap_u8 (by omega) (by omega)]; rfl
theorem a67 {ρ : Type} {fin : ρ} (K : AV → List (Nat × AO) → Nat → Option ρ) (b : List UInt8) (a e : Int) (h : vGet K .u32 b a e 4 = some fin) : aFun E1 ann67 pl67 9 Go.Proofs.Tryz.f67 [.ptr 0 0] [(0, .box [.sl .byte b, .int .i64 a, .int .i64 e])] 1 K = some fin := by
  obtain ⟨hg, h⟩ := bif_t h
  obtain ⟨k, rfl, hk, hl⟩ := rdOk_is hg
  obtain ⟨_, _, v, hv, hlt⟩ := take_is b k e 4 hk (by omega)
  rw [e67, hg, rg49, ← h]
  have hv : takeV b k e 4 = v := hv
  rw [hv, wrap_u32 (by omega) (by omega)]; rfl
theorem ok64 : SpecOk Go.Proofs.Tryz.prog 64 S64 := use mixed env1 Go.Proofs.Tryz.func64 (by kernel_rfl) (by
  intro ρ fin args hp K h
  unfold S64 at h
  split at h
  · exact ⟨_, _, _, a64 K _ _ _ h⟩
  · cases h)
theorem ok67 : SpecOk Go.Proofs.Tryz.prog 67 S67 := use mixed env1 Go.Proofs.Tryz.func67 (by kernel_rfl) (by
  intro ρ fin args hp K h
  unfold S67 at h
  split at h
  · exact ⟨_, _, _, a67 K _ _ _ h⟩
  · cases h)

def textE (b : List UInt8) (a e m : Int) : Int := if takeE b a e 1 ≠ 0 then takeE b a e 1 else if max m 0 < takeV b a e 1 then 4 else if (b.length : Int) - (a + 1) < takeV b a e 1 then 2 else 0
def textA (b : List UInt8) (a e m : Int) : Int := if textE b a e m = 0 then a + 1 + takeV b a e 1 else a
def textS (b : List UInt8) (a e m : Int) : List UInt8 := if textE b a e m = 0 then (b.drop (a + 1).toNat).take (takeV b a e 1).toNat else []

/-- A text taken, by its parts. -/
theorem text_eq {ρ : Type} (X : List UInt8 → Int → Int → Option ρ) (b : List UInt8) (k : Nat) (e n : Int) (hk : k ≤ b.length) (hl : b.length ≤ 4294967296) :
  (bif takeE b k e (1 : Int) != (0 : Int) then X [] (takeA b k e 1) (takeE b k e 1)
  else
    bif decide (IntKind.wrap IntKind.i64 (takeV b k e (1 : Int)) > if (0 : Int) > n then (0 : Int) else n) then X [] k 4
    else
      bif decide (IntKind.wrap IntKind.i64 (takeV b k e (1 : Int)) > IntKind.wrap IntKind.i64 ((↑(List.length b) : Int) - takeA b k e (1 : Int))) then X [] k 2
      else
        bif decide ((0 : Int) ≤ IntKind.wrap IntKind.i64 (takeA b k e (1 : Int) + IntKind.wrap IntKind.i64 (takeV b k e (1 : Int)))) &&
                decide (IntKind.wrap IntKind.i64 (takeA b k e (1 : Int) + IntKind.wrap IntKind.i64 (takeV b k e (1 : Int))) ≤ (↑(List.length b) : Int)) then
          bif decide ((0 : Int) ≤ takeA b k e (1 : Int)) && decide (takeA b k e (1 : Int) ≤ (↑(Int.toNat (IntKind.wrap IntKind.i64 (takeA b k e (1 : Int) + IntKind.wrap IntKind.i64 (takeV b k e (1 : Int))))) : Int)) then
            X (List.drop (Int.toNat (takeA b k e (1 : Int))) (List.take (Int.toNat (IntKind.wrap IntKind.i64 (takeA b k e (1 : Int) + IntKind.wrap IntKind.i64 (takeV b k e (1 : Int))))) b))
              (IntKind.wrap IntKind.i64 (takeA b k e (1 : Int) + IntKind.wrap IntKind.i64 (takeV b k e (1 : Int)))) (takeE b k e (1 : Int))
          else none
        else none) = X (textS b k e n) (textA b k e n) (textE b k e n) := by
  obtain ⟨h1, h2, v, hv, hlt⟩ := take_is b k e 1 hk (by omega)
  have h1 : takeE b k e 1 = 0 → k + 1 ≤ b.length ∧ e = 0 ∧ takeA b k e 1 = ((k + 1 : Nat) : Int) := h1
  have h2 : takeE b k e 1 ≠ 0 → takeA b k e 1 = k := h2
  have hv : takeV b k e 1 = v := hv
  have hlt : v < 256 := by simpa using hlt
  unfold textS textA
  by_cases he : takeE b k e 1 = 0
  · obtain ⟨g1, g2, g3⟩ := h1 he
    have hE : textE b k e n = if max n 0 < (v : Int) then 4 else if (b.length : Int) - ((k : Int) + 1) < (v : Int) then 2 else 0 := by
      unfold textE; rw [if_neg (by simp [he]), hv]
    have hb0 : (takeE b k e 1 != 0) = false := by rw [he]; rfl
    rw [hb0, cond_false, hv, g3, wrap_i64 (n := (v : Int)) (by omega) (by omega)]
    have hm : (if (0 : Int) > n then (0 : Int) else n) = max n 0 := by split <;> omega
    rw [hm]
    by_cases c1 : max n 0 < (v : Int)
    · rw [if_pos c1] at hE
      have : decide ((v : Int) > max n 0) = true := by simp; omega
      rw [this, cond_true, hE]; rfl
    · rw [if_neg c1] at hE
      have : decide ((v : Int) > max n 0) = false := by simp; omega
      rw [this, cond_false, wrap_i64 (n := (b.length : Int) - ((k + 1 : Nat) : Int)) (by omega) (by omega)]
      by_cases c2 : (b.length : Int) - ((k : Int) + 1) < (v : Int)
      · rw [if_pos c2] at hE
        have : decide ((v : Int) > (b.length : Int) - ((k + 1 : Nat) : Int)) = true := by simp; omega
        rw [this, cond_true, hE]; rfl
      · rw [if_neg c2] at hE
        have : decide ((v : Int) > (b.length : Int) - ((k + 1 : Nat) : Int)) = false := by simp; omega
        rw [this, cond_false, wrap_i64 (n := ((k + 1 : Nat) : Int) + (v : Int)) (by omega) (by omega), hE]
        have c3 : (decide ((0 : Int) ≤ ((k + 1 : Nat) : Int) + (v : Int)) && decide (((k + 1 : Nat) : Int) + (v : Int) ≤ (b.length : Int))) = true := by simp; omega
        have c4 : (decide ((0 : Int) ≤ ((k + 1 : Nat) : Int)) && decide (((k + 1 : Nat) : Int) ≤ (((((k + 1 : Nat) : Int) + (v : Int)).toNat : Nat) : Int))) = true := by simp; omega
        rw [c3, cond_true, c4, cond_true, if_pos rfl, if_pos rfl, he]
        have c5 : (((k + 1 : Nat) : Int) + (v : Int)).toNat = k + 1 + v := by omega
        have c6 : ((k : Int) + 1).toNat = k + 1 := by omega
        rw [c5, c6, Int.toNat_natCast, Int.toNat_natCast, List.drop_take]
        rw [show k + 1 + v - (k + 1) = v by omega, show ((k + 1 : Nat) : Int) + (v : Int) = (k : Int) + 1 + (v : Int) by omega]
  · have hE : textE b k e n = takeE b k e 1 := by unfold textE; rw [if_pos he]
    have hb0 : (takeE b k e 1 != 0) = true := by simp [he]
    rw [hb0, cond_true, hE, if_neg he, if_neg he, h2 he]

noncomputable def v66 {ρ : Type} (K : AV → List (Nat × AO) → Nat → Option ρ) (b : List UInt8) (a e n : Int) : Option ρ := bif rdOk b a then K (.str (textS b a e n)) [(0, .box [.sl .byte b, .int .i64 (textA b a e n), .int .i64 (textE b a e n)])] 1 else none
noncomputable def S66 : Summ := fun ρ args hp K => match args, hp with
  | [.ptr 0 0, .int .i64 n], [(0, .box [.sl .byte b, .int .i64 a, .int .i64 e])] => v66 K b a e n
  | _, _ => none
theorem a66 {ρ : Type} {fin : ρ} (K : AV → List (Nat × AO) → Nat → Option ρ) (b : List UInt8) (a e n : Int) (h : v66 K b a e n = some fin) : aFun E1 ann66 pl66 9 Go.Proofs.Tryz.f66 [.ptr 0 0, .int .i64 n] [(0, .box [.sl .byte b, .int .i64 a, .int .i64 e])] 1 K = some fin := by
  obtain ⟨hg, h⟩ := bif_t h
  obtain ⟨k, rfl, hk, hl⟩ := rdOk_is hg
  rw [e66, hg, rg19, ← h]
  rw [← text_eq (fun s a' e' => K (.str s) [(0, .box [.sl .byte b, .int .i64 a', .int .i64 e'])] 1) b k e n hk hl]
  obtain ⟨h1, _, v, hv, hlt⟩ := take_is b k e 1 hk (by omega)
  have h1 : takeE b k e 1 = 0 → k + 1 ≤ b.length ∧ e = 0 ∧ takeA b k e 1 = ((k + 1 : Nat) : Int) := h1
  have hv : takeV b k e 1 = v := hv
  have hlt : v < 256 := by simpa using hlt
  by_cases he : takeE b k e 1 = 0
  · obtain ⟨g1, g2, g3⟩ := h1 he
    have hb0 : (takeE b k e 1 != 0) = false := by rw [he]; rfl
    simp only [hb0, cond_false, Bool.and_self, cond_true]
    rw [hv, g3, wrap_i64 (n := (v : Int)) (by omega) (by omega), wrap_i64 (n := ((k + 1 : Nat) : Int) + (v : Int)) (by omega) (by omega), wrap_i64 (n := ((k + 1 : Nat) : Int) + (v : Int) - (v : Int)) (by omega) (by omega),
      show ((k + 1 : Nat) : Int) + (v : Int) - (v : Int) = ((k + 1 : Nat) : Int) by omega]
  · have hb0 : (takeE b k e 1 != 0) = true := by simp [he]
    simp only [hb0, Bool.and_self, cond_true]
theorem ok66 : SpecOk Go.Proofs.Tryz.prog 66 S66 := use mixed env1 Go.Proofs.Tryz.func66 (by kernel_rfl) (by
  intro ρ fin args hp K h
  unfold S66 at h
  split at h
  · exact ⟨_, _, _, a66 K _ _ _ _ h⟩
  · cases h)
noncomputable def v44 {ρ : Type} (K : AV → List (Nat × AO) → Nat → Option ρ) (b : List UInt8) (a e n : Int) : Option ρ := bif rdOk b a then K (.tup [.str (textS b a e n), .agg [.sl .byte b, .int .i64 (textA b a e n), .int .i64 (textE b a e n)]]) [] 0 else none
noncomputable def S44 : Summ := fun ρ args hp K => match args, hp with
  | [.agg [.sl .byte b, .int .i64 a, .int .i64 e], .int .i64 n], [] => v44 K b a e n
  | _, _ => none
theorem a44 {ρ : Type} {fin : ρ} (K : AV → List (Nat × AO) → Nat → Option ρ) (b : List UInt8) (a e n : Int) (h : v44 K b a e n = some fin) : aFun E1 ann44 pl44 9 Go.Proofs.Tryz.f44 [.agg [.sl .byte b, .int .i64 a, .int .i64 e], .int .i64 n] [] 0 K = some fin := by
  obtain ⟨hg, h⟩ := bif_t h
  obtain ⟨k, rfl, hk, hl⟩ := rdOk_is hg
  rw [e44, hg, rg19, ← h]
  exact text_eq (fun s a' e' => K (.tup [.str s, .agg [.sl .byte b, .int .i64 a', .int .i64 e']]) [] 0) b k e n hk hl
theorem ok44 : SpecOk Go.Proofs.Tryz.prog 44 S44 := use mixed env1 Go.Proofs.Tryz.func44 (by kernel_rfl) (by
  intro ρ fin args hp K h
  unfold S44 at h
  split at h
  · exact ⟨_, _, _, a44 K _ _ _ _ h⟩
  · cases h)

/-! Texts and writings. -/
theorem lcp_pre : ∀ (a b : List UInt8) (n : Nat), n ≤ a.length → ((b.take n = a.take n) ↔ n ≤ lcp a b)
  | _, _, 0, _ => by simp
  | [], _, n + 1, h => by simp at h
  | x :: a, [], n + 1, h => by simp [lcp]
  | x :: a, y :: b, n + 1, h => by
    have ih := lcp_pre a b n (by simpa using h)
    simp only [List.take_succ_cons, lcp, List.cons.injEq]
    by_cases he : x = y
    · rw [if_pos he, ih]
      constructor
      · rintro ⟨_, h⟩; omega
      · intro h; exact ⟨he.symm, by omega⟩
    · rw [if_neg he]
      constructor
      · rintro ⟨h, _⟩; exact absurd h.symm he
      · intro h; omega
theorem l48 {ρ : Type} (fu : Nat) (K : AV → List (Nat × AO) → Nat → Option ρ) (a b : List UInt8) (hl : a.length ≤ 4294967296) : ∀ (n : Nat), n ≤ a.length → lcp a b ≤ n → l48_2 fu K (n + 1) b a (n : Int) = K (.str (a.take (lcp a b))) [] 0
  | 0, _, h => by
    rw [s48_2]
    have : lcp a b = 0 := by omega
    rw [this]; rfl
  | n + 1, hn, h => by
    rw [s48_2]
    have h1 : decide (((n + 1 : Nat) : Int) > 0) = true := decide_eq_true (by omega)
    have h2 : (decide ((0 : Int) ≤ ((n + 1 : Nat) : Int)) && decide (((n + 1 : Nat) : Int) ≤ (a.length : Int))) = true := by simp; omega
    have hlen : (a.take (n + 1)).length = n + 1 := by rw [List.length_take]; omega
    rw [h1, cond_true, h2, cond_true, cond_true, Int.toNat_natCast, hlen, wrap_i64 (by omega) (by omega)]
    by_cases hp : n + 1 ≤ lcp a b
    · have : (b.take (n + 1) == a.take (n + 1)) = true := by rw [beq_iff_eq]; exact (lcp_pre a b (n + 1) hn).2 hp
      rw [this, cond_true, show lcp a b = n + 1 by omega]
    · have : (b.take (n + 1) == a.take (n + 1)) = false := by rw [beq_eq_false_iff_ne]; exact fun h => hp ((lcp_pre a b (n + 1) hn).1 h)
      rw [this, cond_false, show ((n + 1 : Nat) : Int) - 1 = (n : Int) by omega]
      exact l48 fu K a b hl n (by omega) (by omega)
theorem ok48 : SpecOk Go.Proofs.Tryz.prog 48 S53 := use mixed env1 Go.Proofs.Tryz.func48 (by kernel_rfl) (by
  intro ρ fin args hp K h
  unfold S53 at h
  split at h
  · rename_i a b
    obtain ⟨hg, h⟩ := bif_t h
    refine ⟨ann48, pl48, a.length + 1, ?_⟩
    show aFun _ _ _ _ _ _ _ 0 _ = _
    rw [e48]
    exact (l48 (a.length + 1) K a b (lg_is hg) a.length (Nat.le_refl _) (lcp_le a b).1).trans h
  · cases h)
theorem ok28 : SpecOk Go.Proofs.Tryz.prog 28 S96 := use mixed env1 Go.Proofs.Tryz.func28 (by kernel_rfl) (by
  intro ρ fin args hp K h
  unfold S96 at h
  split at h
  · exact ⟨_, _, _, (e28 9 K _ _).trans h⟩
  · cases h)

theorem lim_t {n : Nat} (h : n ≤ 4294967296) : decide (n ≤ lim) = true := decide_eq_true (by unfold lim; omega)
noncomputable def v29 {ρ : Type} (K : AV → List (Nat × AO) → Nat → Option ρ) (b : List UInt8) : Option ρ := bif lg b then K (.ptr 0 0) [(0, .box [.own 1, .int .i64 0, .int .i64 0]), (1, .row .byte b)] 2 else none
noncomputable def S29 : Summ := fun ρ args hp K => match args, hp with
  | [.sl .byte b], [] => v29 K b
  | _, _ => none
theorem a29 {ρ : Type} {fin : ρ} (K : AV → List (Nat × AO) → Nat → Option ρ) (b : List UInt8) (h : v29 K b = some fin) : aFun E1 ann29 pl29 9 Go.Proofs.Tryz.f29 [.sl .byte b] [] 0 K = some fin := by
  obtain ⟨hg, h⟩ := bif_t h
  rw [e29, lim_t (lg_is hg)]
  exact h
theorem ok29 : SpecOk Go.Proofs.Tryz.prog 29 (adapt [.imm .byte] (.bx [(false, 0, .byte)]) S29) := adapt_ok (use mixed env1 Go.Proofs.Tryz.func29 (by kernel_rfl) (by
  intro ρ fin args hp K h
  unfold S29 at h
  split at h
  · exact ⟨_, _, _, a29 K _ h⟩
  · cases h)) _ _

/-- Room for so many more. -/
noncomputable def sg (k : Nat) (l : List UInt8) : Bool := gd (l.length + k ≤ 4294967296)
theorem sg_is {k : Nat} {l : List UInt8} (h : sg k l = true) : l.length + k ≤ 4294967296 := gd_is h
theorem sg_t {k : Nat} {l : List UInt8} (h : l.length + k ≤ 4294967296) : sg k l = true := gd_t h
def be4 (n : Nat) : List UInt8 := [UInt8.ofNat (n / 16777216), UInt8.ofNat (n / 65536), UInt8.ofNat (n / 256), UInt8.ofNat n]
theorem ofNat_mod (n : Nat) : UInt8.ofNat (n % 256) = UInt8.ofNat n := by
  apply UInt8.toNat_inj.1; simp
theorem byte_of (n d : Nat) (hn : n < 18446744073709551616) : UInt8.ofNat (Int.toNat (IntKind.wrap .u8 (Int.fdiv (IntKind.wrap .u64 (n : Int)) (d : Int)))) = UInt8.ofNat (n / d) := by
  rw [wrap_u64 (by omega) (by omega), Int.fdiv_eq_ediv_of_nonneg _ (by omega), wrap_u8_mod]
  have : ((n : Int) / (d : Int) % 256).toNat = n / d % 256 := by
    rw [← Int.natCast_ediv]; omega
  rw [this, ofNat_mod]

noncomputable def vNum {ρ : Type} (K : AV → List (Nat × AO) → Nat → Option ρ) (b l : List UInt8) : Option ρ := bif sg 16 b then K (.own 0) [(0, .row .byte (b ++ l))] 1 else none
noncomputable def S50 : Summ := fun ρ args hp K => match args, hp with
  | [.sl .byte b, .int .u8 n, .int .i64 1], [] => bif rg n 256 then vNum K b [UInt8.ofNat n.toNat] else none
  | _, _ => none
noncomputable def S99 : Summ := fun ρ args hp K => match args, hp with
  | [.sl .byte b, .int .u32 n, .int .i64 4], [] => bif rg n 4294967296 then vNum K b (be4 n.toNat) else none
  | _, _ => none
theorem rg11000 : rg (1 : Int) (1000 : Nat) = true := gd_t ⟨by omega, by omega⟩
theorem rg41000 : rg (4 : Int) (1000 : Nat) = true := gd_t ⟨by omega, by omega⟩
theorem a50 {ρ : Type} {fin : ρ} (K : AV → List (Nat × AO) → Nat → Option ρ) (b : List UInt8) (n : Int) (h : (bif rg n 256 then vNum K b [UInt8.ofNat n.toNat] else none) = some fin) : aFun E1 ann50 pl50 5 Go.Proofs.Tryz.f50 [.sl .byte b, .int .u8 n, .int .i64 1] [] 0 K = some fin := by
  obtain ⟨hg, h⟩ := bif_t h
  obtain ⟨n, rfl, hn⟩ := rg_is hg
  obtain ⟨hs, h⟩ := bif_t h
  have hs := sg_is hs
  have := byte_of n 1 (by omega)
  rw [e50 9, lim_t (by omega), cond_true, lg_t (by omega), rg11000, lim_t (by omega), ← h]
  have e : UInt8.ofNat (Int.toNat (IntKind.wrap .u8 (Int.fdiv (IntKind.wrap .u64 (n : Int)) (1 : Int)))) = UInt8.ofNat n := this.trans (by rw [Nat.div_one])
  rw [e]; rfl
theorem a99 {ρ : Type} {fin : ρ} (K : AV → List (Nat × AO) → Nat → Option ρ) (b : List UInt8) (n : Int) (h : (bif rg n 4294967296 then vNum K b (be4 n.toNat) else none) = some fin) : aFun E1 ann99 pl99 6 Go.Proofs.Tryz.f99 [.sl .byte b, .int .u32 n, .int .i64 4] [] 0 K = some fin := by
  obtain ⟨hg, h⟩ := bif_t h
  obtain ⟨n, rfl, hn⟩ := rg_is hg
  obtain ⟨hs, h⟩ := bif_t h
  have hs := sg_is hs
  have e1 : UInt8.ofNat (Int.toNat (IntKind.wrap .u8 (Int.fdiv (IntKind.wrap .u64 (n : Int)) (1 : Int)))) = UInt8.ofNat n := (byte_of n 1 (by omega)).trans (by rw [Nat.div_one])
  have e2 : UInt8.ofNat (Int.toNat (IntKind.wrap .u8 (Int.fdiv (IntKind.wrap .u64 (n : Int)) (256 : Int)))) = UInt8.ofNat (n / 256) := byte_of n 256 (by omega)
  have e3 : UInt8.ofNat (Int.toNat (IntKind.wrap .u8 (Int.fdiv (IntKind.wrap .u64 (n : Int)) (65536 : Int)))) = UInt8.ofNat (n / 65536) := byte_of n 65536 (by omega)
  have e4 : UInt8.ofNat (Int.toNat (IntKind.wrap .u8 (Int.fdiv (IntKind.wrap .u64 (n : Int)) (16777216 : Int)))) = UInt8.ofNat (n / 16777216) := byte_of n 16777216 (by omega)
  rw [e99 9, e1, e2, e3, e4, lim_t (by omega), cond_true, lg_t (by omega), rg41000, lim_t (by omega), lim_t (by simp; omega), lim_t (by simp; omega), lim_t (by simp; omega), ← h]
  simp only [Bool.and_self, cond_true, List.append_assoc]
  rfl
theorem ok50 : SpecOk Go.Proofs.Tryz.prog 50 (adapt [.imm .byte, .keep, .keep] .keep S50) := adapt_ok (use mixed env1 Go.Proofs.Tryz.func50 (by kernel_rfl) (by
  intro ρ fin args hp K h
  unfold S50 at h
  split at h
  · exact ⟨_, _, _, a50 K _ _ h⟩
  · cases h)) _ _
theorem ok99 : SpecOk Go.Proofs.Tryz.prog 99 (adapt [.imm .byte, .keep, .keep] .keep S99) := adapt_ok (use mixed env1 Go.Proofs.Tryz.func99 (by kernel_rfl) (by
  intro ρ fin args hp K h
  unfold S99 at h
  split at h
  · exact ⟨_, _, _, a99 K _ _ h⟩
  · cases h)) _ _

/-- A number's last bytes, the highest first. -/
def beL : Nat → Nat → List UInt8 → List UInt8
  | 0, _, acc => acc
  | k + 1, n, acc => beL k (n / 256) (UInt8.ofNat n :: acc)
theorem beL_len : ∀ (k n : Nat) (acc : List UInt8), (beL k n acc).length = k + acc.length
  | 0, _, _ => by simp [beL]
  | k + 1, n, acc => by rw [beL, beL_len k]; simp; omega
theorem l47 {ρ : Type} (fu : Nat) (K : AV → List (Nat × AO) → Nat → Option ρ) (b : List UInt8) (m : Nat) (hm : m ≤ 8) (hb : b.length + 16 ≤ 4294967296) : ∀ (k n : Nat) (acc : List UInt8), n < 18446744073709551616 → k + acc.length = 8 →
    l47_3 fu K (k + 1) (n : Int) ((8 - k : Nat) : Int) b (m : Int) acc = K (.own 0) [(0, .row .byte (b ++ (beL k n acc).drop (8 - m)))] 1
  | 0, n, acc, hn, hl => by
    rw [s47_3]
    have h2 : IntKind.wrap .i64 ((8 : Int) - (m : Int)) = ((8 - m : Nat) : Int) := by rw [wrap_i64 (by omega) (by omega)]; omega
    have h3 : (decide ((0 : Int) ≤ ((8 - m : Nat) : Int)) && decide (((8 - m : Nat) : Int) ≤ (acc.length : Int))) = true := by simp; omega
    have h1 : decide (((8 - 0 : Nat) : Int) < 8) = false := by decide
    rw [h1, cond_false, lim_t (by omega), cond_true, h2, h3, cond_true, Int.toNat_natCast, List.take_length, lim_t (by rw [List.length_drop]; omega), cond_true]
    rfl
  | k + 1, n, acc, hn, hl => by
    rw [s47_3]
    have h1 : decide (((8 - (k + 1) : Nat) : Int) < 8) = true := by simp; omega
    have h2 : IntKind.wrap .i64 (((8 - (k + 1) : Nat) : Int) + 1) = ((8 - k : Nat) : Int) := by rw [wrap_i64 (by omega) (by omega)]; omega
    have h3 : IntKind.wrap .u64 (Int.tdiv (n : Int) 256) = ((n / 256 : Nat) : Int) := by rw [Int.tdiv_eq_ediv_of_nonneg (by omega), wrap_u64 (by omega) (by omega)]; omega
    have h4 : UInt8.ofNat (Int.toNat (IntKind.wrap .u8 (Int.tmod (n : Int) 256))) = UInt8.ofNat n := by
      rw [Int.tmod_eq_emod_of_nonneg (by omega), wrap_u8 (by omega) (by omega)]
      rw [show ((n : Int) % 256).toNat = n % 256 by omega, ofNat_mod]
    rw [h1, cond_true, lim_t (by omega), cond_true, h2, h3, h4]
    refine (l47 fu K b m hm hb k (n / 256) _ (by omega) (by simp; omega)).trans ?_
    rfl
noncomputable def S47 : Summ := fun ρ args hp K => match args, hp with
  | [.sl .byte b, .int .u64 n, .int .i64 m], [] => bif rg n 18446744073709551616 && rg m 9 then vNum K b ((beL 8 n.toNat []).drop (8 - m.toNat)) else none
  | _, _ => none
theorem a47 {ρ : Type} {fin : ρ} (K : AV → List (Nat × AO) → Nat → Option ρ) (b : List UInt8) (n m : Int) (h : (bif rg n 18446744073709551616 && rg m 9 then vNum K b ((beL 8 n.toNat []).drop (8 - m.toNat)) else none) = some fin) : aFun E1 ann47 pl47 9 Go.Proofs.Tryz.f47 [.sl .byte b, .int .u64 n, .int .i64 m] [] 0 K = some fin := by
  obtain ⟨hg, h⟩ := bif_t h
  rw [Bool.and_eq_true] at hg
  obtain ⟨n, rfl, hn⟩ := rg_is hg.1
  obtain ⟨m, rfl, hm⟩ := rg_is hg.2
  obtain ⟨hs, h⟩ := bif_t h
  rw [e47, ← h]
  exact l47 9 K b m (by omega) (sg_is hs) 8 n [] hn rfl
theorem ok47 : SpecOk Go.Proofs.Tryz.prog 47 (adapt [.imm .byte, .keep, .keep] .keep S47) := adapt_ok (use mixed env1 Go.Proofs.Tryz.func47 (by kernel_rfl) (by
  intro ρ fin args hp K h
  unfold S47 at h
  split at h
  · exact ⟨_, _, _, a47 K _ _ _ h⟩
  · cases h)) _ _

noncomputable def L2 : List (Nat × Summ) := [(100, S100), (144, S100), (64, S64), (67, S67), (66, S66), (44, S44), (48, S53), (28, S96), (29, adapt [.imm .byte] (.bx [(false, 0, .byte)]) S29), (50, adapt [.imm .byte, .keep, .keep] .keep S50), (99, adapt [.imm .byte, .keep, .keep] .keep S99), (47, adapt [.imm .byte, .keep, .keep] .keep S47)] ++ L1
theorem L2_ok : ∀ p ∈ L2, SpecOk Go.Proofs.Tryz.prog p.1 p.2 :=
  oks_cons ok100 <| oks_cons ok144 <| oks_cons ok64 <| oks_cons ok67 <| oks_cons ok66 <| oks_cons ok44 <| oks_cons ok48 <| oks_cons ok28 <| oks_cons ok29 <| oks_cons ok50 <| oks_cons ok99 <| oks_cons ok47 L1_ok
noncomputable def E2 : Env := ⟨tabOf 370 ttab, lookS L2⟩
theorem env2 : EnvOk Go.Proofs.Tryz.prog E2 := ⟨tabOk_ok tabTrue, lookS_ok L2_ok⟩
end Go.Ai.Dn
