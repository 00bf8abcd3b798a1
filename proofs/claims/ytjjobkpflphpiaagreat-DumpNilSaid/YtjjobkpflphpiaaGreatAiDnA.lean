/- Functions that call none: what they come to, by their text; and their summaries. -/
import Derived.Test.YtjjobkpflphpiaaGreatAiZ
import Derived.Test.YtjjobkpflphpiaaGreatAiDnT2
import Derived.Tactics
set_option maxRecDepth 100000
set_option linter.unusedVariables false
set_option linter.unusedSimpArgs false
namespace Go.Ai.Dn
noncomputable def E0 : Env := ⟨tabOf 370 ttab, lookS []⟩
noncomputable def ann63n : Nat → Option (List (Nat × Mode)) := lookN []
noncomputable def pl63n : Nat → Option (List (Nat × Bool) × List Nat) := lookN []
theorem e63n {ρ : Type} (fu : Nat) (K : AV → List (Nat × AO) → Nat → Option ρ)  :
    aFun E0 ann63n pl63n fu Go.Proofs.Tryz.f63 [AV.nils] [] 0 K =
    K AV.nils [] (0 : Nat) := by kernel_rfl
noncomputable def ann63 : Nat → Option (List (Nat × Mode)) := lookN []
noncomputable def pl63 : Nat → Option (List (Nat × Bool) × List Nat) := lookN []
theorem e63 {ρ : Type} (fu : Nat) (K : AV → List (Nat × AO) → Nat → Option ρ) (b : List UInt8) :
    aFun E0 ann63 pl63 fu Go.Proofs.Tryz.f63 [AV.sn Ty.byte b] [] 0 K =
    bif decide ((0 : Nat) + List.length b ≤ lim) then K (AV.own (0 : Nat)) [((0 : Nat), AO.row Ty.byte b)] (1 : Nat)
else none := by kernel_rfl
noncomputable def ann145 : Nat → Option (List (Nat × Mode)) := lookN [(3, [(10, .keep), (0, .keep)])]
noncomputable def pl145 : Nat → Option (List (Nat × Bool) × List Nat) := lookN []
noncomputable def l145_3 {ρ : Type} (fu : Nat) (K : AV → List (Nat × AO) → Nat → Option ρ) (f3 : Nat) (x0 : Int) (x1 : Int) : Option ρ :=
  loopAt E0 ann145 pl145 fu 0 Go.Proofs.Tryz.f145 [1, 1, 0, 1, 0] K [] f3 (St.mk (22 : Nat) [((0 : Nat), AV.int IntKind.u32 x0), ((10 : Nat), AV.int IntKind.i64 x1)] [] (0 : Nat))
theorem e145 {ρ : Type} (fu : Nat) (K : AV → List (Nat × AO) → Nat → Option ρ) (row : Int) (c : Int) :
    aFun E0 ann145 pl145 fu Go.Proofs.Tryz.f145 [AV.int IntKind.u32 row, AV.int IntKind.u8 c] [] 0 K =
    l145_3 fu K fu
  (IntKind.wrap IntKind.u32
    (↑(BitVec.toNat (BitVec.ofInt (32 : Nat) row ^^^ BitVec.ofInt (32 : Nat) (IntKind.wrap IntKind.u32 c))) : Int))
  (0 : Int) := by kernel_rfl
theorem s145_3 {ρ : Type} (fu : Nat) (K : AV → List (Nat × AO) → Nat → Option ρ) (f3 : Nat) (x0 : Int) (x1 : Int) :
    l145_3 fu K  (f3 + 1) x0 x1 =
    bif decide (x1 < (8 : Int)) then
  bif
      IntKind.wrap IntKind.u32
          (↑(BitVec.toNat (BitVec.ofInt (32 : Nat) x0 &&& BitVec.ofInt (32 : Nat) (1 : Int))) : Int) ==
        (1 : Int) then
    l145_3 fu K f3
      (IntKind.wrap IntKind.u32
        (↑(BitVec.toNat
              (BitVec.ofInt (32 : Nat) (Int.fdiv x0 (2 : Int)) ^^^ BitVec.ofInt (32 : Nat) (2197175160 : Int))) :
          Int))
      (IntKind.wrap IntKind.i64 (x1 + (1 : Int)))
  else l145_3 fu K f3 (Int.fdiv x0 (2 : Int)) (IntKind.wrap IntKind.i64 (x1 + (1 : Int)))
else K (AV.int IntKind.u32 x0) [] (0 : Nat) := by kernel_rfl
noncomputable def ann193 : Nat → Option (List (Nat × Mode)) := lookN []
noncomputable def pl193 : Nat → Option (List (Nat × Bool) × List Nat) := lookN []
theorem e193 {ρ : Type} (fu : Nat) (K : AV → List (Nat × AO) → Nat → Option ρ) (row : Int) :
    aFun E0 ann193 pl193 fu Go.Proofs.Tryz.f193 [AV.int IntKind.u32 row] [] 0 K =
    bif Int.tmod row (2 : Int) == (1 : Int) then
  K
    (AV.int IntKind.u32
      (IntKind.wrap IntKind.u32
        (↑(BitVec.toNat
              (BitVec.ofInt (32 : Nat) (IntKind.wrap IntKind.u32 (Int.tdiv row (2 : Int))) ^^^
                BitVec.ofInt (32 : Nat) (2197175160 : Int))) :
          Int)))
    [] (0 : Nat)
else K (AV.int IntKind.u32 (IntKind.wrap IntKind.u32 (Int.tdiv row (2 : Int)))) [] (0 : Nat) := by kernel_rfl
noncomputable def ann54 : Nat → Option (List (Nat × Mode)) := lookN []
noncomputable def pl54 : Nat → Option (List (Nat × Bool) × List Nat) := lookN []
theorem e54 {ρ : Type} (fu : Nat) (K : AV → List (Nat × AO) → Nat → Option ρ) (row : Int) :
    aFun E0 ann54 pl54 5 Go.Proofs.Tryz.f54 [AV.int IntKind.u32 row] [] 0 K =
    K
  (AV.agg
    [AV.int IntKind.u8 (IntKind.wrap IntKind.u8 row),
      AV.int IntKind.u8 (IntKind.wrap IntKind.u8 (Int.fdiv row (256 : Int))),
      AV.int IntKind.u8 (IntKind.wrap IntKind.u8 (Int.fdiv (Int.fdiv row (256 : Int)) (256 : Int))),
      AV.int IntKind.u8
        (IntKind.wrap IntKind.u8 (Int.fdiv (Int.fdiv (Int.fdiv row (256 : Int)) (256 : Int)) (256 : Int)))])
  [] (0 : Nat) := by kernel_rfl
noncomputable def ann53 : Nat → Option (List (Nat × Mode)) := lookN [(2, [(0, .keep), (1, .keep), (5, .keep)])]
noncomputable def pl53 : Nat → Option (List (Nat × Bool) × List Nat) := lookN [(2, [(0, true), (1, true), (2, true), (3, true), (4, true), (5, true), (6, true), (7, true), (8, true), (9, true), (10, true), (11, true), (12, true), (13, true), (14, true), (15, true)], [])]
noncomputable def l53_2 {ρ : Type} (fu : Nat) (K : AV → List (Nat × AO) → Nat → Option ρ) (f2 : Nat) (x0 : Int) (x1 : List UInt8) (x2 : List UInt8) : Option ρ :=
  loopAt E0 ann53 pl53 fu 0 Go.Proofs.Tryz.f53 [1, 1, 0, 0] K [] f2 (St.mk (27 : Nat) [((5 : Nat), AV.int IntKind.i64 x0), ((1 : Nat), AV.str x1), ((0 : Nat), AV.str x2)] [] (0 : Nat))
theorem e53 {ρ : Type} (fu : Nat) (K : AV → List (Nat × AO) → Nat → Option ρ) (a : List UInt8) (b : List UInt8) :
    aFun E0 ann53 pl53 fu Go.Proofs.Tryz.f53 [AV.str a, AV.str b] [] 0 K =
    l53_2 fu K fu (0 : Int) b a := by kernel_rfl
theorem s53_2 {ρ : Type} (fu : Nat) (K : AV → List (Nat × AO) → Nat → Option ρ) (f2 : Nat) (x0 : Int) (x1 : List UInt8) (x2 : List UInt8) :
    l53_2 fu K  (f2 + 1) x0 x1 x2 =
    bif
    decide
      (x0 <
        if (↑(List.length x1) : Int) < (↑(List.length x2) : Int) then (↑(List.length x1) : Int)
        else (↑(List.length x2) : Int)) then
  bif inb x0 (List.length x2) then
    bif inb x0 (List.length x1) then
      bif
          (↑(UInt8.toNat (List.getD x2 (Int.toNat x0) (0 : UInt8))) : Int) ==
            (↑(UInt8.toNat (List.getD x1 (Int.toNat x0) (0 : UInt8))) : Int) then
        l53_2 fu K f2 (IntKind.wrap IntKind.i64 (x0 + (1 : Int))) x1 x2
      else
        bif decide ((0 : Int) ≤ x0) && decide (x0 ≤ (↑(List.length x2) : Int)) then
          K (AV.str (List.take (Int.toNat x0) x2)) [] (0 : Nat)
        else none
    else none
  else none
else
  bif decide ((0 : Int) ≤ x0) && decide (x0 ≤ (↑(List.length x2) : Int)) then
    K (AV.str (List.take (Int.toNat x0) x2)) [] (0 : Nat)
  else none := by kernel_rfl
noncomputable def ann96 : Nat → Option (List (Nat × Mode)) := lookN []
noncomputable def pl96 : Nat → Option (List (Nat × Bool) × List Nat) := lookN []
theorem e96 {ρ : Type} (fu : Nat) (K : AV → List (Nat × AO) → Nat → Option ρ) (a : List UInt8) (b : List UInt8) :
    aFun E0 ann96 pl96 fu Go.Proofs.Tryz.f96 [AV.str a, AV.str b] [] 0 K =
    bif decide ((↑(List.length a) : Int) ≥ (↑(List.length b) : Int)) then
  bif decide ((0 : Int) ≤ (↑(List.length b) : Int)) && decide ((↑(List.length b) : Int) ≤ (↑(List.length a) : Int)) then
    K (AV.bool (List.take (List.length b) a == b)) [] (0 : Nat)
  else none
else K (AV.bool false) [] (0 : Nat) := by kernel_rfl
noncomputable def ann62 : Nat → Option (List (Nat × Mode)) := lookN []
noncomputable def pl62 : Nat → Option (List (Nat × Bool) × List Nat) := lookN []
theorem e62 {ρ : Type} (fu : Nat) (K : AV → List (Nat × AO) → Nat → Option ρ) (a : List UInt8) (b : List UInt8) :
    aFun E0 ann62 pl62 fu Go.Proofs.Tryz.f62 [AV.str a, AV.str b] [] 0 K =
    bif decide ((↑(List.length a) : Int) ≥ (↑(List.length b) : Int)) then
  bif decide ((0 : Int) ≤ (↑(List.length b) : Int)) && decide ((↑(List.length b) : Int) ≤ (↑(List.length a) : Int)) then
    K (AV.bool (List.take (List.length b) a == b)) [] (0 : Nat)
  else none
else K (AV.bool false) [] (0 : Nat) := by kernel_rfl
noncomputable def ann97 : Nat → Option (List (Nat × Mode)) := lookN []
noncomputable def pl97 : Nat → Option (List (Nat × Bool) × List Nat) := lookN []
theorem e97 {ρ : Type} (fu : Nat) (K : AV → List (Nat × AO) → Nat → Option ρ) (a : List UInt8) :
    aFun E0 ann97 pl97 fu Go.Proofs.Tryz.f97 [AV.str a] [] 0 K =
    bif decide ((↑(List.length a) : Int) ≥ (1 : Int)) then
  K (AV.bool (decide ((↑(List.length a) : Int) ≤ (16 : Int)))) [] (0 : Nat)
else K (AV.bool false) [] (0 : Nat) := by kernel_rfl
noncomputable def ann32 : Nat → Option (List (Nat × Mode)) := lookN [(4, [(1, .keep), (0, .keep), (12, .keep), (13, .keep)])]
noncomputable def pl32 : Nat → Option (List (Nat × Bool) × List Nat) := lookN [(6, [(0, true), (1, true), (2, true), (4, true), (5, true), (6, true), (3, true), (7, false), (8, true)], [0])]
noncomputable def l32_4 {ρ : Type} (fu : Nat) (K : AV → List (Nat × AO) → Nat → Option ρ) (f4 : Nat) (x0 : Int) (x1 : Int) (x2 : List UInt8) (x3 : List UInt8) : Option ρ :=
  loopAt E0 ann32 pl32 fu 0 Go.Proofs.Tryz.f32 [1, 1, 0, 1, 0] K [] f4 (St.mk (26 : Nat)
  [((13 : Nat), AV.int IntKind.i64 x0), ((12 : Nat), AV.int IntKind.i64 x1), ((0 : Nat), AV.sl Ty.byte x2),
    ((1 : Nat), AV.sl Ty.byte x3)]
  [] (0 : Nat))
theorem e32 {ρ : Type} (fu : Nat) (K : AV → List (Nat × AO) → Nat → Option ρ) (a : List UInt8) (b : List UInt8) :
    aFun E0 ann32 pl32 fu Go.Proofs.Tryz.f32 [AV.sl Ty.byte a, AV.sl Ty.byte b] [] 0 K =
    bif (↑(List.length a) : Int) != (↑(List.length b) : Int) then K (AV.bool false) [] (0 : Nat)
else l32_4 fu K fu (0 : Int) (↑(List.length a) : Int) a b := by kernel_rfl
theorem s32_4 {ρ : Type} (fu : Nat) (K : AV → List (Nat × AO) → Nat → Option ρ) (f4 : Nat) (x0 : Int) (x1 : Int) (x2 : List UInt8) (x3 : List UInt8) :
    l32_4 fu K  (f4 + 1) x0 x1 x2 x3 =
    bif decide (x0 < x1) then
  bif inb x0 (List.length x2) then
    bif inb x0 (List.length x3) then
      bif
          (↑(UInt8.toNat (List.getD x2 (Int.toNat x0) (0 : UInt8))) : Int) !=
            (↑(UInt8.toNat (List.getD x3 (Int.toNat x0) (0 : UInt8))) : Int) then
        K (AV.bool false) [] (0 : Nat)
      else l32_4 fu K f4 (IntKind.wrap IntKind.i64 (x0 + (1 : Int))) x1 x2 x3
    else none
  else none
else K (AV.bool true) [] (0 : Nat) := by kernel_rfl
noncomputable def ann109 : Nat → Option (List (Nat × Mode)) := lookN [(8, [(46, .keep), (1, .keep), (0, .keep), (47, .keep), (48, .keep), (5, .keep)])]
noncomputable def pl109 : Nat → Option (List (Nat × Bool) × List Nat) := lookN [(3, [(0, true), (1, true), (2, true), (3, true), (6, true), (7, true), (8, true), (4, true), (5, true), (9, true), (10, true), (11, true)], [0]), (7, [(0, true), (1, true), (2, true), (4, true), (5, true), (6, true), (8, true), (9, true), (10, true), (12, true), (16, true), (3, true), (7, true), (11, true), (13, true), (14, true), (15, true)], [0])]
noncomputable def l109_8 {ρ : Type} (fu : Nat) (K : AV → List (Nat × AO) → Nat → Option ρ) (f8 : Nat) (x0 : Int) (x1 : Int) (x2 : Int) (x3 : Int) (x4 : List UInt8) (x5 : List UInt8) (x6 : Int) (x7 : Int) : Option ρ :=
  loopAt E0 ann109 pl109 fu 1 Go.Proofs.Tryz.f109 [1, 1, 1, 1, 0, 1, 0] K [] f8 (St.mk (67 : Nat)
  [((5 : Nat), AV.int IntKind.u64 x0), ((48 : Nat), AV.int IntKind.i64 x1), ((47 : Nat), AV.int IntKind.i64 x2),
    ((0 : Nat), AV.ptr (0 : Nat) (0 : Nat)), ((1 : Nat), AV.int IntKind.i64 x3), ((46 : Nat), AV.sl Ty.byte x4)]
  [((0 : Nat), AO.box [AV.sl Ty.byte x5, AV.int IntKind.i64 x6, AV.int IntKind.i64 x7])] (1 : Nat))
theorem e109 {ρ : Type} (fu : Nat) (K : AV → List (Nat × AO) → Nat → Option ρ) (n : Int) (b : List UInt8) (at_ : Int) (e : Int) :
    aFun E0 ann109 pl109 fu Go.Proofs.Tryz.f109 [AV.ptr (0 : Nat) (0 : Nat), AV.int IntKind.i64 n] [((0 : Nat), AO.box [AV.sl Ty.byte b, AV.int IntKind.i64 at_, AV.int IntKind.i64 e])] 1 K =
    bif e != (0 : Int) then
  K (AV.int IntKind.u64 (0 : Int)) [((0 : Nat), AO.box [AV.sl Ty.byte b, AV.int IntKind.i64 at_, AV.int IntKind.i64 e])]
    (1 : Nat)
else
  bif decide (n > IntKind.wrap IntKind.i64 ((↑(List.length b) : Int) - at_)) then
    K (AV.int IntKind.u64 (0 : Int))
      [((0 : Nat), AO.box [AV.sl Ty.byte b, AV.int IntKind.i64 at_, AV.int IntKind.i64 (2 : Int)])] (1 : Nat)
  else
    bif
        decide ((0 : Int) ≤ IntKind.wrap IntKind.i64 (at_ + n)) &&
          decide (IntKind.wrap IntKind.i64 (at_ + n) ≤ (↑(List.length b) : Int)) then
      bif decide ((0 : Int) ≤ at_) && decide (at_ ≤ (↑(Int.toNat (IntKind.wrap IntKind.i64 (at_ + n))) : Int)) then
        l109_8 fu K fu (0 : Int) (0 : Int)
          (↑(List.length (List.drop (Int.toNat at_) (List.take (Int.toNat (IntKind.wrap IntKind.i64 (at_ + n))) b))) :
            Int)
          n (List.drop (Int.toNat at_) (List.take (Int.toNat (IntKind.wrap IntKind.i64 (at_ + n))) b)) b at_ e
      else none
    else none := by kernel_rfl
theorem s109_8 {ρ : Type} (fu : Nat) (K : AV → List (Nat × AO) → Nat → Option ρ) (f8 : Nat) (x0 : Int) (x1 : Int) (x2 : Int) (x3 : Int) (x4 : List UInt8) (x5 : List UInt8) (x6 : Int) (x7 : Int) :
    l109_8 fu K  (f8 + 1) x0 x1 x2 x3 x4 x5 x6 x7 =
    bif decide (x1 < x2) then
  bif inb x1 (List.length x4) then
    l109_8 fu K f8
      (IntKind.wrap IntKind.u64
        (↑(BitVec.toNat
              (BitVec.ofInt (64 : Nat) (IntKind.wrap IntKind.u64 (x0 * (256 : Int))) |||
                BitVec.ofInt (64 : Nat)
                  (IntKind.wrap IntKind.u64 (↑(UInt8.toNat (List.getD x4 (Int.toNat x1) (0 : UInt8))) : Int)))) :
          Int))
      (IntKind.wrap IntKind.i64 (x1 + (1 : Int))) x2 x3 x4 x5 x6 x7
  else none
else
  K (AV.int IntKind.u64 x0)
    [((0 : Nat),
        AO.box [AV.sl Ty.byte x5, AV.int IntKind.i64 (IntKind.wrap IntKind.i64 (x6 + x3)), AV.int IntKind.i64 x7])]
    (1 : Nat) := by kernel_rfl
noncomputable def ann68 : Nat → Option (List (Nat × Mode)) := lookN []
noncomputable def pl68 : Nat → Option (List (Nat × Bool) × List Nat) := lookN [(3, [(0, true), (1, true), (2, true), (5, true), (6, true), (7, true), (3, true), (4, true), (8, true), (9, true), (10, true)], [0])]
theorem e68 {ρ : Type} (fu : Nat) (K : AV → List (Nat × AO) → Nat → Option ρ) (b : List UInt8) (at_ : Int) (e : Int) :
    aFun E0 ann68 pl68 fu Go.Proofs.Tryz.f68 [AV.ptr (0 : Nat) (0 : Nat)] [((0 : Nat), AO.box [AV.sl Ty.byte b, AV.int IntKind.i64 at_, AV.int IntKind.i64 e])] 1 K =
    K (AV.int IntKind.i64 (IntKind.wrap IntKind.i64 ((↑(List.length b) : Int) - at_)))
  [((0 : Nat), AO.box [AV.sl Ty.byte b, AV.int IntKind.i64 at_, AV.int IntKind.i64 e])] (1 : Nat) := by kernel_rfl
noncomputable def ann65 : Nat → Option (List (Nat × Mode)) := lookN []
noncomputable def pl65 : Nat → Option (List (Nat × Bool) × List Nat) := lookN []
theorem e65 {ρ : Type} (fu : Nat) (K : AV → List (Nat × AO) → Nat → Option ρ) (n : Int) (b : List UInt8) (at_ : Int) (e : Int) :
    aFun E0 ann65 pl65 fu Go.Proofs.Tryz.f65 [AV.ptr (0 : Nat) (0 : Nat), AV.int IntKind.i64 n] [((0 : Nat), AO.box [AV.sl Ty.byte b, AV.int IntKind.i64 at_, AV.int IntKind.i64 e])] 1 K =
    bif e == (0 : Int) then
  K (AV.tup []) [((0 : Nat), AO.box [AV.sl Ty.byte b, AV.int IntKind.i64 at_, AV.int IntKind.i64 n])] (1 : Nat)
else K (AV.tup []) [((0 : Nat), AO.box [AV.sl Ty.byte b, AV.int IntKind.i64 at_, AV.int IntKind.i64 e])] (1 : Nat) := by kernel_rfl
noncomputable def ann31 : Nat → Option (List (Nat × Mode)) := lookN []
noncomputable def pl31 : Nat → Option (List (Nat × Bool) × List Nat) := lookN [(3, [(0, true), (1, true), (2, true), (3, true), (4, true), (5, true), (6, true), (7, true), (8, true), (10, true), (11, true), (12, true), (9, true), (13, true), (14, true), (15, true), (16, true), (17, true)], [0])]
theorem e31 {ρ : Type} (fu : Nat) (K : AV → List (Nat × AO) → Nat → Option ρ) (b : List UInt8) (at_ : Int) (e : Int) :
    aFun E0 ann31 pl31 fu Go.Proofs.Tryz.f31 [AV.ptr (0 : Nat) (0 : Nat)] [((0 : Nat), AO.box [AV.sl Ty.byte b, AV.int IntKind.i64 at_, AV.int IntKind.i64 e])] 1 K =
    bif e == (0 : Int) then
  bif decide (at_ < (↑(List.length b) : Int)) then
    K (AV.int IntKind.i64 (4 : Int))
      [((0 : Nat), AO.box [AV.sl Ty.byte b, AV.int IntKind.i64 at_, AV.int IntKind.i64 e])] (1 : Nat)
  else
    K (AV.int IntKind.i64 e) [((0 : Nat), AO.box [AV.sl Ty.byte b, AV.int IntKind.i64 at_, AV.int IntKind.i64 e])]
      (1 : Nat)
else
  K (AV.int IntKind.i64 e) [((0 : Nat), AO.box [AV.sl Ty.byte b, AV.int IntKind.i64 at_, AV.int IntKind.i64 e])]
    (1 : Nat) := by kernel_rfl
noncomputable def ann15 : Nat → Option (List (Nat × Mode)) := lookN [(8, [(2, .keep), (5, .keep), (1, .keep), (7, .keep), (6, .keep)])]
noncomputable def pl15 : Nat → Option (List (Nat × Bool) × List Nat) := lookN [(2, [(1, true), (0, false), (2, false)], []), (5, [(1, true), (0, false), (2, false)], []), (12, [(0, true), (2, true), (1, false), (3, false)], [])]
noncomputable def l15_8 {ρ : Type} (fu : Nat) (K : AV → List (Nat × AO) → Nat → Option ρ) (f8 : Nat) (x0 : Int) (x1 : Int) (x2 : Int) (x3 : Int) (x4 : Int) (x5 : List UInt8) (x6 : Int) (x7 : Int) : Option ρ :=
  loopAt E0 ann15 pl15 fu 0 Go.Proofs.Tryz.f15 [1, 1, 1, 1, 0, 1, 0] K [] f8 (St.mk (46 : Nat)
  [((6 : Nat), AV.int IntKind.u64 x0), ((7 : Nat), AV.int IntKind.i64 x1), ((1 : Nat), AV.int IntKind.i64 x2),
    ((5 : Nat), AV.ptr (0 : Nat) (0 : Nat)), ((2 : Nat), AV.ptr (1 : Nat) (0 : Nat))]
  [((0 : Nat), AO.box [AV.nils, AV.int IntKind.i64 x3, AV.int IntKind.i64 x4]),
    ((1 : Nat), AO.box [AV.sl Ty.byte x5, AV.int IntKind.i64 x6, AV.int IntKind.i64 x7])]
  (2 : Nat))
theorem e15 {ρ : Type} (fu : Nat) (K : AV → List (Nat × AO) → Nat → Option ρ) (n : Int) (b : List UInt8) (at_ : Int) (e : Int) :
    aFun E0 ann15 pl15 fu Go.Proofs.Tryz.f15 [AV.agg [AV.sl Ty.byte b, AV.int IntKind.i64 at_, AV.int IntKind.i64 e], AV.int IntKind.i64 n] [] 0 K =
    bif e != (0 : Int) then
  K (AV.tup [AV.int IntKind.u64 (0 : Int), AV.agg [AV.sl Ty.byte b, AV.int IntKind.i64 at_, AV.int IntKind.i64 e]]) []
    (0 : Nat)
else
  bif decide (IntKind.wrap IntKind.i64 ((↑(List.length b) : Int) - at_) < n) then
    K
      (AV.tup
        [AV.int IntKind.u64 (0 : Int), AV.agg [AV.sl Ty.byte b, AV.int IntKind.i64 at_, AV.int IntKind.i64 (2 : Int)]])
      [] (0 : Nat)
  else l15_8 fu K fu (0 : Int) (0 : Int) n (0 : Int) (0 : Int) b at_ e := by kernel_rfl
theorem s15_8 {ρ : Type} (fu : Nat) (K : AV → List (Nat × AO) → Nat → Option ρ) (f8 : Nat) (x0 : Int) (x1 : Int) (x2 : Int) (x3 : Int) (x4 : Int) (x5 : List UInt8) (x6 : Int) (x7 : Int) :
    l15_8 fu K  (f8 + 1) x0 x1 x2 x3 x4 x5 x6 x7 =
    bif decide (x1 < x2) then
  bif inb (IntKind.wrap IntKind.i64 (x6 + x1)) (List.length x5) then
    l15_8 fu K f8
      (IntKind.wrap IntKind.u64
        (IntKind.wrap IntKind.u64 ((256 : Int) * x0) +
          IntKind.wrap IntKind.u64
            (↑(UInt8.toNat (List.getD x5 (Int.toNat (IntKind.wrap IntKind.i64 (x6 + x1))) (0 : UInt8))) : Int)))
      (IntKind.wrap IntKind.i64 (x1 + (1 : Int))) x2 x3 x4 x5 x6 x7
  else none
else
  K
    (AV.tup
      [AV.int IntKind.u64 x0,
        AV.agg [AV.sl Ty.byte x5, AV.int IntKind.i64 (IntKind.wrap IntKind.i64 (x6 + x2)), AV.int IntKind.i64 x7]])
    [] (0 : Nat) := by kernel_rfl
noncomputable def ann17 : Nat → Option (List (Nat × Mode)) := lookN []
noncomputable def pl17 : Nat → Option (List (Nat × Bool) × List Nat) := lookN []
theorem e17 {ρ : Type} (fu : Nat) (K : AV → List (Nat × AO) → Nat → Option ρ) (b : List UInt8) (at_ : Int) (e : Int) :
    aFun E0 ann17 pl17 fu Go.Proofs.Tryz.f17 [AV.agg [AV.sl Ty.byte b, AV.int IntKind.i64 at_, AV.int IntKind.i64 e]] [] 0 K =
    bif e == (0 : Int) then
  bif decide (at_ < (↑(List.length b) : Int)) then K (AV.int IntKind.i64 (4 : Int)) [] (0 : Nat)
  else K (AV.int IntKind.i64 e) [] (0 : Nat)
else K (AV.int IntKind.i64 e) [] (0 : Nat) := by kernel_rfl
noncomputable def ann95 : Nat → Option (List (Nat × Mode)) := lookN [(2, [(0, .keep), (3, .keep)])]
noncomputable def pl95 : Nat → Option (List (Nat × Bool) × List Nat) := lookN [(4, [(0, true), (1, true), (2, true), (3, true), (5, true), (6, true), (7, true), (8, true), (9, true), (4, true), (10, true), (11, true)], [0])]
noncomputable def l95_2 {ρ : Type} (fu : Nat) (K : AV → List (Nat × AO) → Nat → Option ρ) (f2 : Nat) (x0 : Int) (x1 : List (List UInt8 × List UInt8)) : Option ρ :=
  loopAt E0 ann95 pl95 fu 0 Go.Proofs.Tryz.f95 [1, 0, 1, 0] K [] f2 (St.mk (22 : Nat) [((3 : Nat), AV.int IntKind.i64 x0), ((0 : Nat), AV.sl (Ty.prod Ty.str Ty.str) x1)] [] (0 : Nat))
theorem e95 {ρ : Type} (fu : Nat) (K : AV → List (Nat × AO) → Nat → Option ρ) (l : List (List UInt8 × List UInt8)) :
    aFun E0 ann95 pl95 fu Go.Proofs.Tryz.f95 [AV.sl (Ty.prod Ty.str Ty.str) l] [] 0 K =
    l95_2 fu K fu (1 : Int) l := by kernel_rfl
theorem s95_2 {ρ : Type} (fu : Nat) (K : AV → List (Nat × AO) → Nat → Option ρ) (f2 : Nat) (x0 : Int) (x1 : List (List UInt8 × List UInt8)) :
    l95_2 fu K  (f2 + 1) x0 x1 =
    bif decide (x0 < (↑(List.length x1) : Int)) then
  bif inb x0 (List.length x1) then
    bif inb (IntKind.wrap IntKind.i64 (x0 - (1 : Int))) (List.length x1) then
      bif
          Op.bytesLess (Prod.fst (List.getD x1 (Int.toNat x0) ([], [])))
              (Prod.fst (List.getD x1 (Int.toNat (IntKind.wrap IntKind.i64 (x0 - (1 : Int)))) ([], []))) ||
            Prod.fst (List.getD x1 (Int.toNat x0) ([], [])) ==
              Prod.fst (List.getD x1 (Int.toNat (IntKind.wrap IntKind.i64 (x0 - (1 : Int)))) ([], [])) then
        K (AV.bool false) [] (0 : Nat)
      else l95_2 fu K f2 (IntKind.wrap IntKind.i64 (x0 + (1 : Int))) x1
    else none
  else none
else K (AV.bool true) [] (0 : Nat) := by kernel_rfl

theorem mixed : Go.Proofs.Tryz.prog.follows .mixedOrders = true := by kernel_rfl
theorem env0 : EnvOk Go.Proofs.Tryz.prog E0 := ⟨tabOk_ok tabTrue, lookS_ok oks_nil⟩

/-! Sums. -/
def shiftN (r : Nat) : Nat := if r % 2 = 1 then (r / 2) ^^^ 2197175160 else r / 2
def iter {α : Type} (f : α → α) : Nat → α → α
  | 0, x => x
  | n + 1, x => iter f n (f x)
theorem shiftN_lt {r : Nat} (h : r < 4294967296) : shiftN r < 4294967296 := by
  unfold shiftN
  split
  · exact Nat.xor_lt_two_pow (n := 32) (by omega) (by omega)
  · omega
theorem iter_lt (n : Nat) : ∀ {r : Nat}, r < 4294967296 → iter shiftN n r < 4294967296 := by
  induction n with
  | zero => exact fun h => h
  | succ n ih => exact fun h => ih (shiftN_lt h)
def carryN (r c : Nat) : Nat := iter shiftN 8 (r ^^^ c)
theorem carryN_lt {r c : Nat} (h : r < 4294967296) (hc : c < 256) : carryN r c < 4294967296 :=
  iter_lt 8 (Nat.xor_lt_two_pow (n := 32) h (by omega))

theorem and_one {a : Nat} (ha : a < 4294967296) : IntKind.wrap .u32 (((BitVec.ofInt 32 (a : Int) &&& BitVec.ofInt 32 (1 : Int)).toNat : Nat) : Int) = ((a % 2 : Nat) : Int) := by
  have := and_u32 (b := 1) ha (by omega)
  rw [Nat.and_one_is_mod] at this
  exact this
theorem xor_poly {a : Nat} (ha : a < 4294967296) : IntKind.wrap .u32 (((BitVec.ofInt 32 (a : Int) ^^^ BitVec.ofInt 32 (2197175160 : Int)).toNat : Nat) : Int) = ((a ^^^ 2197175160 : Nat) : Int) :=
  xor_u32 (b := 2197175160) ha (by omega)

theorem l145 {ρ : Type} (fu : Nat) (K : AV → List (Nat × AO) → Nat → Option ρ) : ∀ (k r : Nat), r < 4294967296 → k ≤ 8 → l145_3 fu K (k + 1) (r : Int) ((8 - k : Nat) : Int) = K (.int .u32 ((iter shiftN k r : Nat) : Int)) [] 0
  | 0, r, hr, _ => by
    rw [s145_3]
    rfl
  | k + 1, r, hr, hk => by
    rw [s145_3]
    have h1 : decide (((8 - (k + 1) : Nat) : Int) < 8) = true := by simp; omega
    have h2 : IntKind.wrap .i64 (((8 - (k + 1) : Nat) : Int) + 1) = ((8 - k : Nat) : Int) := by rw [wrap_i64 (by omega) (by omega)]; omega
    have hd : Int.fdiv (r : Int) 2 = ((r / 2 : Nat) : Int) := (fdiv_nat r 1).trans (by rw [Nat.pow_one])
    rw [h1, cond_true, h2, and_one hr, hd, xor_poly (by omega), l145 fu K k _ (Nat.xor_lt_two_pow (n := 32) (by omega) (by omega)) (by omega), l145 fu K k _ (by omega) (by omega)]
    show _ = K (.int .u32 ((iter shiftN k (shiftN r) : Nat) : Int)) [] 0
    by_cases hb : r % 2 = 1
    · have : (((r % 2 : Nat) : Int) == 1) = true := by rw [hb]; rfl
      rw [this, cond_true, shiftN, if_pos hb]
    · have : (((r % 2 : Nat) : Int) == 1) = false := by simp; omega
      rw [this, cond_false, shiftN, if_neg hb]

noncomputable def S145 : Summ := fun ρ args hp K => match args, hp with
  | [.int .u32 r, .int .u8 c], [] => bif rg r 4294967296 && rg c 256 then K (.int .u32 ((carryN r.toNat c.toNat : Nat) : Int)) [] 0 else none
  | _, _ => none

theorem ok145 : SpecOk Go.Proofs.Tryz.prog 145 S145 := use mixed env0 Go.Proofs.Tryz.func145 (by kernel_rfl) (by
  intro ρ fin args hp K h
  unfold S145 at h
  split at h
  · rename_i r c
    obtain ⟨hg, h⟩ := bif_t h
    simp only [Bool.and_eq_true] at hg
    obtain ⟨r, rfl, hr⟩ := rg_is hg.1
    obtain ⟨c, rfl, hc⟩ := rg_is hg.2
    refine ⟨ann145, pl145, 9, ?_⟩
    show aFun _ _ _ _ _ _ _ 0 _ = _
    rw [e145, wrap_u32 (n := (c : Int)) (by omega) (by omega), xor_u32 hr (by omega)]
    have := l145 9 K 8 (r ^^^ c) (Nat.xor_lt_two_pow (n := 32) hr (by omega)) (Nat.le_refl _)
    refine Eq.trans this ?_
    exact h
  · cases h)

noncomputable def S193 : Summ := fun ρ args hp K => match args, hp with
  | [.int .u32 r], [] => bif rg r 4294967296 then K (.int .u32 ((shiftN r.toNat : Nat) : Int)) [] 0 else none
  | _, _ => none
theorem ok193 : SpecOk Go.Proofs.Tryz.prog 193 S193 := use mixed env0 Go.Proofs.Tryz.func193 (by kernel_rfl) (by
  intro ρ fin args hp K h
  unfold S193 at h
  split at h
  · obtain ⟨hg, h⟩ := bif_t h
    obtain ⟨r, rfl, hr⟩ := rg_is hg
    refine ⟨ann193, pl193, 9, ?_⟩
    show aFun _ _ _ _ _ _ _ 0 _ = _
    rw [e193]
    have ht : Int.tdiv (r : Int) 2 = ((r / 2 : Nat) : Int) := by rw [Int.tdiv_eq_ediv_of_nonneg (by omega)]; omega
    have hm : Int.tmod (r : Int) 2 = ((r % 2 : Nat) : Int) := by rw [Int.tmod_eq_emod_of_nonneg (by omega)]; omega
    rw [ht, hm, wrap_u32 (n := ((r / 2 : Nat) : Int)) (by omega) (by omega), xor_poly (by omega)]
    rw [← h]
    show _ = K (.int .u32 ((shiftN r : Nat) : Int)) [] 0
    by_cases hb : r % 2 = 1
    · have : (((r % 2 : Nat) : Int) == 1) = true := by rw [hb]; rfl
      rw [this, cond_true, shiftN, if_pos hb]
    · have : (((r % 2 : Nat) : Int) == 1) = false := by simp; omega
      rw [this, cond_false, shiftN, if_neg hb]
  · cases h)

/-- A sum's bytes. -/
def le4 (n : Nat) : List UInt8 := [UInt8.ofNat n, UInt8.ofNat (n / 256), UInt8.ofNat (n / 65536), UInt8.ofNat (n / 16777216)]
noncomputable def S54 : Summ := fun ρ args hp K => match args, hp with
  | [.int .u32 r], [] => bif rg r 4294967296 then K (.agg [.int .u8 ((r.toNat % 256 : Nat) : Int), .int .u8 ((r.toNat / 256 % 256 : Nat) : Int), .int .u8 ((r.toNat / 65536 % 256 : Nat) : Int), .int .u8 ((r.toNat / 16777216 % 256 : Nat) : Int)]) [] 0 else none
  | _, _ => none
theorem ok54 : SpecOk Go.Proofs.Tryz.prog 54 S54 := use mixed env0 Go.Proofs.Tryz.func54 (by kernel_rfl) (by
  intro ρ fin args hp K h
  unfold S54 at h
  split at h
  · obtain ⟨hg, h⟩ := bif_t h
    obtain ⟨r, rfl, hr⟩ := rg_is hg
    refine ⟨ann54, pl54, 5, ?_⟩
    show aFun _ _ _ _ _ _ _ 0 _ = _
    rw [e54 5, ← h]
    have h8 : ∀ n : Nat, IntKind.wrap .u8 ((n : Nat) : Int) = ((n % 256 : Nat) : Int) := fun n => by rw [wrap_u8_mod]; omega
    have d1 : ∀ n : Nat, Int.fdiv ((n : Nat) : Int) (256 : Int) = ((n / 256 : Nat) : Int) := fun n => fdiv_nat n 8
    simp only [d1, h8, Int.toNat_natCast, Nat.div_div_eq_div_mul]
  · cases h)

/-! Texts. -/
def lcp : List UInt8 → List UInt8 → Nat
  | x :: a, y :: b => if x = y then lcp a b + 1 else 0
  | _, _ => 0
theorem lcp_le : ∀ a b, lcp a b ≤ a.length ∧ lcp a b ≤ b.length
  | [], _ => by simp [lcp]
  | _ :: _, [] => by simp [lcp]
  | x :: a, y :: b => by
    have := lcp_le a b
    simp only [lcp]
    split <;> simp <;> omega

theorem l53 {ρ : Type} (fu : Nat) (K : AV → List (Nat × AO) → Nat → Option ρ) (a b : List UInt8) (hl : a.length ≤ lim) : ∀ (f k : Nat), a.length + 1 ≤ k + f → k ≤ a.length → k ≤ b.length → l53_2 fu K f (k : Int) b a = K (.str (a.take (k + lcp (a.drop k) (b.drop k)))) [] 0 ∨ f = 0
  | 0, _, _, _, _ => .inr rfl
  | f + 1, k, hf, ha, hb => by
    left
    unfold lim at hl
    rw [s53_2]
    have hmin : (if (b.length : Int) < (a.length : Int) then (b.length : Int) else (a.length : Int)) = ((min a.length b.length : Nat) : Int) := by
      split <;> omega
    rw [hmin]
    have hend : (bif decide ((0 : Int) ≤ (k : Int)) && decide ((k : Int) ≤ (↑(List.length a) : Int)) then K (AV.str (List.take (Int.toNat (k : Int)) a)) [] (0 : Nat) else none) = K (AV.str (a.take k)) [] 0 := by
      have : (decide ((0 : Int) ≤ (k : Int)) && decide ((k : Int) ≤ (↑(List.length a) : Int))) = true := by simp; omega
      rw [this, cond_true, Int.toNat_natCast]
    by_cases hk : k < a.length ∧ k < b.length
    · have h1 : decide ((k : Int) < ((min a.length b.length : Nat) : Int)) = true := by simp; omega
      rw [h1, cond_true, inb_nat hk.1, cond_true, inb_nat hk.2, cond_true, hend, Int.toNat_natCast, getD_of hk.1, getD_of hk.2, wrap_i64 (by omega) (by omega)]
      have e1 : a.drop k = a[k] :: a.drop (k + 1) := List.drop_eq_getElem_cons hk.1
      have e2 : b.drop k = b[k] :: b.drop (k + 1) := List.drop_eq_getElem_cons hk.2
      rw [e1, e2, lcp]
      by_cases he : a[k] = b[k]
      · have h2 : (((a[k]).toNat : Int) == ((b[k]).toNat : Int)) = true := by rw [he]; simp
        rw [h2, cond_true, if_pos he]
        rcases l53 fu K a b (by unfold lim; omega) f (k + 1) (by omega) (by omega) (by omega) with h3 | h3
        · rw [show ((k : Int) + 1) = ((k + 1 : Nat) : Int) by omega, h3]
          congr 3; omega
        · omega
      · have h2 : (((a[k]).toNat : Int) == ((b[k]).toNat : Int)) = false := by
          simp only [beq_eq_false_iff_ne, ne_eq]
          intro h; exact he (UInt8.toNat_inj.1 (by omega))
        rw [h2, cond_false, if_neg he, Nat.add_zero]
    · have h1 : decide ((k : Int) < ((min a.length b.length : Nat) : Int)) = false := by simp; omega
      rw [h1, cond_false, hend]
      have : lcp (a.drop k) (b.drop k) = 0 := by
        by_cases h : k < a.length
        · have : b.drop k = [] := List.drop_eq_nil_of_le (by omega)
          rw [this]; cases a.drop k <;> rfl
        · have : a.drop k = [] := List.drop_eq_nil_of_le (by omega)
          rw [this]; rfl
      rw [this, Nat.add_zero]

noncomputable def S53 : Summ := fun ρ args hp K => match args, hp with
  | [.str a, .str b], [] => bif lg a then K (.str (a.take (lcp a b))) [] 0 else none
  | _, _ => none
theorem ok53 : SpecOk Go.Proofs.Tryz.prog 53 S53 := use mixed env0 Go.Proofs.Tryz.func53 (by kernel_rfl) (by
  intro ρ fin args hp K h
  unfold S53 at h
  split at h
  · rename_i a b
    obtain ⟨hg, h⟩ := bif_t h
    have hg := lg_is hg
    refine ⟨ann53, pl53, a.length + 1, ?_⟩
    show aFun _ _ _ _ _ _ _ 0 _ = _
    rw [e53]
    rcases l53 (a.length + 1) K a b hg (a.length + 1) 0 (by omega) (by omega) (by omega) with h1 | h1
    · simp only [Nat.zero_add, List.drop_zero] at h1
      exact h1.trans h
    · omega
  · cases h)

theorem take_eq {a b : List UInt8} (h : ¬ a.length ≥ b.length) : (a.take b.length == b) = false := by
  rw [beq_eq_false_iff_ne]
  intro he
  have := congrArg List.length he
  rw [List.length_take] at this
  omega
noncomputable def S96 : Summ := fun ρ args hp K => match args, hp with
  | [.str a, .str b], [] => K (.bool (a.take b.length == b)) [] 0
  | _, _ => none
theorem has_eq {ρ : Type} (K : AV → List (Nat × AO) → Nat → Option ρ) (a b : List UInt8) : (bif decide ((↑(List.length a) : Int) ≥ (↑(List.length b) : Int)) then
    bif decide ((0 : Int) ≤ (↑(List.length b) : Int)) && decide ((↑(List.length b) : Int) ≤ (↑(List.length a) : Int)) then K (AV.bool (List.take (List.length b) a == b)) [] (0 : Nat) else none
    else K (AV.bool false) [] (0 : Nat)) = K (.bool (a.take b.length == b)) [] 0 := by
  by_cases h : a.length ≥ b.length
  · have h1 : decide ((↑(List.length a) : Int) ≥ (↑(List.length b) : Int)) = true := by simp; omega
    have h2 : (decide ((0 : Int) ≤ (↑(List.length b) : Int)) && decide ((↑(List.length b) : Int) ≤ (↑(List.length a) : Int))) = true := by simp; omega
    rw [h2, h1, cond_true, cond_true]
  · have h1 : decide ((↑(List.length a) : Int) ≥ (↑(List.length b) : Int)) = false := by simp; omega
    rw [h1, cond_false, take_eq h]
theorem ok96 : SpecOk Go.Proofs.Tryz.prog 96 S96 := use mixed env0 Go.Proofs.Tryz.func96 (by kernel_rfl) (by
  intro ρ fin args hp K h
  unfold S96 at h
  split at h
  · exact ⟨ann96, pl96, 9, (e96 9 K _ _).trans ((has_eq K _ _).trans h)⟩
  · cases h)
theorem ok62 : SpecOk Go.Proofs.Tryz.prog 62 S96 := use mixed env0 Go.Proofs.Tryz.func62 (by kernel_rfl) (by
  intro ρ fin args hp K h
  unfold S96 at h
  split at h
  · exact ⟨ann62, pl62, 9, (e62 9 K _ _).trans ((has_eq K _ _).trans h)⟩
  · cases h)
def nameB (a : List UInt8) : Bool := decide (1 ≤ a.length) && decide (a.length ≤ 16)
noncomputable def S97 : Summ := fun ρ args hp K => match args, hp with
  | [.str a], [] => K (.bool (nameB a)) [] 0
  | _, _ => none
theorem ok97 : SpecOk Go.Proofs.Tryz.prog 97 S97 := use mixed env0 Go.Proofs.Tryz.func97 (by kernel_rfl) (by
  intro ρ fin args hp K h
  unfold S97 at h
  split at h
  · rename_i a
    refine ⟨ann97, pl97, 9, (e97 9 K _).trans (Eq.trans ?_ h)⟩
    by_cases h1 : 1 ≤ a.length
    · have : decide ((↑(List.length a) : Int) ≥ (1 : Int)) = true := by simp; omega
      have h2 : decide ((↑(List.length a) : Int) ≤ (16 : Int)) = decide (a.length ≤ 16) := by
        rw [decide_eq_decide]; omega
      rw [this, cond_true, h2, nameB, decide_eq_true h1, Bool.true_and]
    · have : decide ((↑(List.length a) : Int) ≥ (1 : Int)) = false := by simp; omega
      rw [this, cond_false, nameB, decide_eq_false h1, Bool.false_and]
  · cases h)

theorem cons_beq (x : UInt8) (p q : List UInt8) : (p == q) = (x :: p == x :: q) := by rw [Bool.eq_iff_iff]; simp
theorem l32 {ρ : Type} (fu : Nat) (K : AV → List (Nat × AO) → Nat → Option ρ) (a b : List UInt8) (hl : a.length ≤ lim) (hab : a.length = b.length) : ∀ (f k : Nat), a.length + 1 ≤ k + f → k ≤ a.length → l32_4 fu K f (k : Int) (a.length : Int) a b = K (.bool (a.drop k == b.drop k)) [] 0 ∨ f = 0
  | 0, _, _, _ => .inr rfl
  | f + 1, k, hf, ha => by
    left
    unfold lim at hl
    rw [s32_4]
    by_cases hk : k < a.length
    · have h1 : decide ((k : Int) < (a.length : Int)) = true := by simp; omega
      have hb : k < b.length := by omega
      rw [h1, cond_true, inb_nat hk, cond_true, inb_nat hb, cond_true, Int.toNat_natCast, getD_of hk, getD_of hb, wrap_i64 (by omega) (by omega)]
      have e1 : a.drop k = a[k] :: a.drop (k + 1) := List.drop_eq_getElem_cons hk
      have e2 : b.drop k = b[k] :: b.drop (k + 1) := List.drop_eq_getElem_cons hb
      rw [e1, e2]
      by_cases he : a[k] = b[k]
      · have h2 : (((a[k]).toNat : Int) != ((b[k]).toNat : Int)) = false := by rw [he]; simp
        rw [h2, cond_false]
        rcases l32 fu K a b (by unfold lim; omega) hab f (k + 1) (by omega) (by omega) with h3 | h3
        · rw [show ((k : Int) + 1) = ((k + 1 : Nat) : Int) by omega, h3, he]
          exact congrArg (fun c => K (.bool c) [] 0) (cons_beq _ _ _)
        · omega
      · have h2 : (((a[k]).toNat : Int) != ((b[k]).toNat : Int)) = true := by
          simp only [bne_iff_ne, ne_eq]
          intro h; exact he (UInt8.toNat_inj.1 (by omega))
        rw [h2, cond_true]
        congr 2
        symm
        rw [beq_eq_false_iff_ne]
        intro h; exact he (List.cons.inj h).1
    · have h1 : decide ((k : Int) < (a.length : Int)) = false := by simp; omega
      rw [h1, cond_false, List.drop_eq_nil_of_le (show a.length ≤ k by omega), List.drop_eq_nil_of_le (show b.length ≤ k by omega)]
      rfl
noncomputable def v32 {ρ : Type} (K : AV → List (Nat × AO) → Nat → Option ρ) (a b : List UInt8) : Option ρ := bif lg a then K (.bool (a == b)) [] 0 else none
noncomputable def S32 : Summ := fun ρ args hp K => match args, hp with
  | [.sl .byte a, .sl .byte b], [] => v32 K a b
  | _, _ => none
theorem a32 {ρ : Type} {fin : ρ} (K : AV → List (Nat × AO) → Nat → Option ρ) (a b : List UInt8) (h : v32 K a b = some fin) : aFun E0 ann32 pl32 (a.length + 1) Go.Proofs.Tryz.f32 [.sl .byte a, .sl .byte b] [] 0 K = some fin := by
  obtain ⟨hg, h⟩ := bif_t h
  have hg := lg_is hg
  rw [e32, ← h]
  by_cases hab : a.length = b.length
  · have h1 : ((a.length : Int) != (b.length : Int)) = false := by rw [hab]; exact bne_self_eq_false _
    rw [h1, cond_false]
    rcases l32 (a.length + 1) K a b hg hab (a.length + 1) 0 (by omega) (by omega) with h3 | h3
    · exact h3
    · omega
  · have h1 : ((a.length : Int) != (b.length : Int)) = true := by simp; omega
    have h2 : (a == b) = false := by
      rw [beq_eq_false_iff_ne]
      intro he; exact hab (congrArg List.length he)
    rw [h1, cond_true, h2]
theorem ok32 : SpecOk Go.Proofs.Tryz.prog 32 S32 := use mixed env0 Go.Proofs.Tryz.func32 (by kernel_rfl) (by
  intro ρ fin args hp K h
  unfold S32 at h
  split at h
  · exact ⟨_, _, _, a32 K _ _ h⟩
  · cases h)
end Go.Ai.Dn
