/- Loops of a function, by their place. -/
import Derived.Test.YtjjobkpflphpiaaGreatAiS
set_option linter.unusedVariables false
namespace Go.Ai

/-- A place in code: what stands there. -/
def codeAt : Code → List Nat → Code
  | .seq a _, 0 :: p => codeAt a p
  | .seq _ b, 1 :: p => codeAt b p
  | .cond _ t _, 0 :: p => codeAt t p
  | .cond _ _ e, 1 :: p => codeAt e p
  | .block _ c, _ :: p => codeAt c p
  | .loop c, _ :: p => codeAt c p
  | c, _ => c

/-- How a function ends. -/
def endK {ρ : Type} (E : Env) (fn : Func) (nx : Nat) (K : AV → List (Nat × AO) → Nat → Option ρ) : Ex → St → Option ρ := fun e s =>
  match e with
  | .exit _ => none
  | _ => resStep E s fn.results.toList [] fun vs =>
    match gather s.hp 1000 (List.range nx ++ refs (oneOf vs)) [] with
    | none => none
    | some ord =>
      let m := fun id => idx id ord 0
      K (ren m (oneOf vs)) (subHp s.hp m ord 0) ord.length

/-- What follows behind a place. A loop's own rounds have the fuel f (for what lies within loops: their fuel in turn). -/
def contAt {ρ : Type} (E : Env) (ann : Nat → Option (List (Nat × Mode))) (pl : Nat → Option (List (Nat × Bool) × List Nat)) (fu n0 : Nat) : Code → List Nat → (Ex → St → Option ρ) → List Nat → (Ex → St → Option ρ)
  | .seq a b, 0 :: p, K, fs => contAt E ann pl fu n0 a p (fun e s' => match e with | .normal => run E ann pl fu n0 b K s' | e => K e s') fs
  | .seq _ b, 1 :: p, K, fs => contAt E ann pl fu n0 b p K fs
  | .cond _ t _, 0 :: p, K, fs => contAt E ann pl fu n0 t p K fs
  | .cond _ _ e, 1 :: p, K, fs => contAt E ann pl fu n0 e p K fs
  | .block id c, _ :: p, K, fs => contAt E ann pl fu n0 c p (fun e s' => match e with | .exit i => (bif Nat.beq i id then K .normal s' else K (.exit i) s') | e => K e s') fs
  | .loop c, _ :: p, K, f :: fs => contAt E ann pl fu n0 c p (fun e s' => match e with
      | .normal => (match ann (headId c) with
        | some sl => norm n0 sl s' (loopR (run E ann pl fu n0 c) (fun s' k => norm n0 sl s' k) K f)
        | none => loopR (run E ann pl fu n0 c) (fun s' k => k s') K f s')
      | e => K e s') fs
  | _, _, K, _ => K

def bodyOf (fn : Func) : Code := fn.body.getD .skip

/-- The loop at a place p of a function, from its head on; fs: the fuels of the loops around it. -/
def loopAt {ρ : Type} (E : Env) (ann : Nat → Option (List (Nat × Mode))) (pl : Nat → Option (List (Nat × Bool) × List Nat)) (fu n0 : Nat) (fn : Func) (p : List Nat) (K : AV → List (Nat × AO) → Nat → Option ρ) (fs : List Nat) (f : Nat) (s : St) : Option ρ :=
  match codeAt (bodyOf fn) p with
  | .loop c =>
    (match ann (headId c) with
    | some sl => loopR (run E ann pl fu n0 c) (fun s' k => norm n0 sl s' k) (contAt E ann pl fu n0 (bodyOf fn) p (endK E fn n0 K) fs) f s
    | none => loopR (run E ann pl fu n0 c) (fun s' k => k s') (contAt E ann pl fu n0 (bodyOf fn) p (endK E fn n0 K) fs) f s)
  | _ => none
end Go.Ai
namespace Go.Ai
def lookN {α : Type} : List (Nat × α) → Nat → Option α
  | [], _ => none
  | (k, v) :: r, n => bif Nat.beq k n then some v else lookN r n
end Go.Ai
