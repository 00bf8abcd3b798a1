/- Of a nil forest there is no dump, and none is restored there; nor what is none: for every input.
   No condition but the given row's own. -/
import Derived.Test.YtjjobkpflphpiaaGreatAiDnL
import Derived.Test.YtjjobkpflphpiaaGreatRows
import Derived.WalkKit
import Derived.ProofKit
import Derived.OpenShut
import Derived.ShutString
import Derived.ChangeOld
import Derived.Below
import Derived.SizedLaws
import Derived.Carry
set_option maxRecDepth 100000
set_option linter.unusedVariables false
set_option linter.unusedSimpArgs false
namespace Go.Ai.Dn
noncomputable def ann3 : Nat → Option (List (Nat × Mode)) := lookN []
noncomputable def pl3 : Nat → Option (List (Nat × Bool) × List Nat) := lookN []
theorem e3 {ρ : Type} (fu : Nat) (K : AV → List (Nat × AO) → Nat → Option ρ) (b : List UInt8) :
    aFun E8 ann3 pl3 fu Go.Proofs.Tryz.f3 [AV.sl Ty.byte b] [] 0 K =
    bif decide ((↑(List.length b) : Int) > (3000 : Int)) then K (AV.bool true) [] (0 : Nat)
else
  bif gd (List.length b ≤ (65536 : Nat)) then
    bif gd (List.length b ≤ (65536 : Nat)) then
      bif gd (Prod.snd (refGet b) = (0 : Int)) then
        bif nilE b == (1 : Int) then K (AV.bool true) [] (0 : Nat) else K (AV.bool false) [] (0 : Nat)
      else
        bif Prod.snd (refGet b) == (0 : Int) then
          bif nilE b == (1 : Int) then K (AV.bool true) [] (0 : Nat) else K (AV.bool false) [] (0 : Nat)
        else bif nilE b == Prod.snd (refGet b) then K (AV.bool true) [] (0 : Nat) else K (AV.bool false) [] (0 : Nat)
    else none
  else none := by kernel_rfl
end Go.Ai.Dn
namespace Go.Ai.Dn

noncomputable def S3 : Summ := fun ρ args hp K => match args, hp with
  | [.sl .byte _], [] => K (.bool true) [] 0
  | _, _ => none
theorem a3 {ρ : Type} {fin : ρ} (K : AV → List (Nat × AO) → Nat → Option ρ) (b : List UInt8) (h : K (.bool true) [] 0 = some fin) : aFun E8 ann3 pl3 9 Go.Proofs.Tryz.f3 [.sl .byte b] [] 0 K = some fin := by
  rw [e3]
  by_cases hc : b.length > 3000
  · have h1 : decide ((b.length : Int) > 3000) = true := decide_eq_true (by omega)
    rw [h1]; exact h
  · have h1 : decide ((b.length : Int) > 3000) = false := decide_eq_false (by omega)
    rw [h1, cond_false, gd_t (show b.length ≤ 65536 by omega), cond_true, cond_true]
    unfold nilE
    by_cases h0 : (refGet b).2 = 0
    · rw [gd_t h0, cond_true, if_pos h0]; exact h
    · have h2 : ((refGet b).2 == 0) = false := by simp [h0]
      rw [gd_f h0, cond_false, h2, cond_false, if_neg h0, beq_self_eq_true, cond_true]; exact h
theorem ok3 : SpecOk Go.Proofs.Tryz.prog 3 S3 := use mixed env8 Go.Proofs.Tryz.func3 (by kernel_rfl) (by
  intro ρ fin args hp K h
  unfold S3 at h
  split at h
  · exact ⟨_, _, _, a3 K _ h⟩
  · cases h)
end Go.Ai.Dn

namespace Go.Ai
/-- A law's call, by its summary: it answers true, and what was there stands as it stood. -/
theorem law_calls {P : Program} {f : Nat} {fn : Func} {S : Summ} (hS : SpecOk P f S) (hf : P.funcs[f]? = some fn) (hname : (fn.name == "runtime.NumGoroutine") = false) (hbody : fn.body.isSome = true)
    {w : World} {F : Nat → Prop} {args : List AV} {vs : List Value} (hF : ∀ b, F b → b < w.heap.size) (ha : ARs w F (fun _ => none) args vs)
    (hs : ∀ (K : AV → List (Nat × AO) → Nat → Option Unit), K (.bool true) [] 0 = some () → S Unit args [] K = some ()) :
    Calls P f vs.toArray w fun e w' => e = .returned (.bool true) ∧ Go.RowKit.Below w.heap.size w w' := by
  let K : AV → List (Nat × AO) → Nat → Option Unit := fun r _ _ => match r with
    | .bool true => some ()
    | _ => none
  have hrl : Rl w F (fun _ => none) [] ([] : List (Nat × AO)).length := {
    obj := fun id => trivial
    one := fun id id' b h => by obtain ⟨h, _⟩ := h; cases h
    dis := fun id b h => by obtain ⟨h, _⟩ := h; cases h
    fsz := hF
    fresh := fun _ _ => rfl
    unset := fun _ _ => rfl }
  have hd := hS Unit () args [] K (hs K rfl) w F (fun _ => none) vs hrl ha
  have hc : (callFunc f vs.toArray).run P w = .ok (.enter f vs.toArray) w := by
    have hname' : ¬ fn.name = "runtime.NumGoroutine" := by simpa using hname
    obtain ⟨c, hb⟩ := Option.isSome_iff_exists.1 hbody
    simp [callFunc, hf, hname', hb]
  unfold Does at hd
  rw [hc] at hd
  refine Calls.mono hd ?_
  intro e w' he
  cases e with
  | returned v =>
    obtain ⟨r, hp', nx', F', μ', k1, k2, k3, k4⟩ := he
    simp only [K] at k1
    split at k1
    · cases k3
      refine ⟨rfl, k4.os, k4.tape, k4.output, k4.size, fun k hk => k4.keep k hk ?_⟩
      rintro ⟨id, ho⟩
      obtain ⟨h, _⟩ := ho
      cases h
    · cases k1
  | _ => exact he.elim
end Go.Ai

namespace Go.Proofs.YtjjobkpflphpiaaGreat.dumpNil
open Go.ChangeShapes Go.WideShapes Go.ChangeAt Go.RowKit
open Go.ChangeMaps (open_string shut_string)
theorem own : ownKnob Tryz.prog.godebug = none := by kernel_rfl
theorem laidOut : laidOutB Tryz.prog = true := by kernel_rfl
def IsRow (k : IntKind) (w : World) (a : Option Addr) (len cap : Nat) (zs : List Int) : Prop :=
  (a = none ∧ len = 0 ∧ cap = 0 ∧ zs = []) ∨
  ∃ x, a = some x ∧ len ≤ cap ∧ cap ≤ maxLen ∧ zs.length = cap ∧ (∀ i, i < zs.length → w.cell? (x.add i) = some (.int k (zs.getD i 0))) ∧ ∀ n ∈ zs, (Lit.int k n).wf = true

theorem row_data {w : World} {a : Option Addr} {len cap : Nat} {zs : List Int} (h : IsRow .u8 w a len cap zs) :
    ∃ (F : Nat → Prop) (xs : List UInt8), (∀ b, F b → b < w.heap.size) ∧ Ai.AR w F (fun _ => none) (.sl .byte xs) (.slice a len cap) := by
  rcases h with ⟨rfl, rfl, rfl, rfl⟩ | ⟨x, rfl, hl, hm, hz, hc, hw⟩
  · exact ⟨fun _ => False, [], fun _ h => h.elim, none, 0, rfl, ⟨Nat.le_refl _, fun _ => rfl⟩, fun i x hi => by
      have : ([] : List UInt8)[i]? = some x := hi
      simp at this⟩
  · refine ⟨fun b => b = x.block ∧ b < w.heap.size, (zs.take len).map fun n => UInt8.ofNat n.toNat, fun b h => h.2, some x, cap, ?_, ⟨?_, fun e => by cases e⟩, fun i y hi => ?_⟩
    · show [Value.slice (some x) len cap] = [Value.slice (some x) ((zs.take len).map fun n => UInt8.ofNat n.toNat).length cap]
      simp; omega
    · show ((zs.take len).map fun n => UInt8.ofNat n.toNat).length ≤ cap
      simp; omega
    · have hi : ((zs.take len).map fun n => UInt8.ofNat n.toNat)[i]? = some y := hi
      rw [List.getElem?_map, List.getElem?_take] at hi
      have hil : i < len := by
        by_cases h : i < len
        · exact h
        · rw [if_neg h] at hi; cases hi
      rw [if_pos hil] at hi
      have hiz : i < zs.length := by omega
      rw [List.getElem?_eq_getElem hiz] at hi
      have hy : UInt8.ofNat zs[i].toNat = y := Option.some.inj hi
      have hcell := hc i hiz
      have hgd : zs.getD i 0 = zs[i] := by rw [List.getD_eq_getElem?_getD, List.getElem?_eq_getElem hiz]; rfl
      rw [hgd] at hcell
      have hwf := hw zs[i] (List.getElem_mem hiz)
      have hr : 0 ≤ zs[i] ∧ zs[i] < 256 := by
        simp [Lit.wf, IntKind.min, IntKind.max, IntKind.signed, IntKind.bits] at hwf
        omega
      have h0 := hc 0 (by omega)
      have hx0 : x.add 0 = x := by simp [Addr.add]
      rw [hx0] at h0
      have hsp : x.spot = none ∧ x.block < w.heap.size := by
        unfold World.cell? at h0
        split at h0
        · rename_i c e fz hb
          refine ⟨?_, ?_⟩
          · cases hs : x.spot with
            | none => rfl
            | some q => rw [hs] at h0; simp at h0
          · exact (Array.getElem?_eq_some_iff.1 hb).1
        · cases h0
      obtain ⟨xb, xo, xs⟩ := x
      obtain ⟨rfl, hlt⟩ := hsp
      refine ⟨xb, xo, [.int .u8 (UInt8.toNat y)], rfl, ⟨rfl, hlt⟩, rfl, rfl, fun j u hj => ?_⟩
      cases j with
      | zero =>
        simp at hj
        subst hj
        rw [← Ai.add_eq]
        have e1 : i * Ai.Ty.sz .byte + 0 = i := by simp [Ai.Ty.sz]
        have e2 : xo + i * Ai.Ty.sz .byte + 0 = xo + i := by simp [Ai.Ty.sz]
        rw [Ai.add_eq] at hcell ⊢
        rw [e2, hcell, ← hy]
        congr 2
        rw [UInt8.toNat_ofNat']
        omega
      | succ j => simp at hj

theorem walk (a0 : Option Addr) (len0 cap0 : Nat) (z0 : List Int) (W : World) (h : IsRow .u8 W a0 len0 cap0 z0) : Calls Tryz.prog 3 #[.slice a0 len0 cap0] W fun e w' => e = .returned (.bool true) ∧ Below W.heap.size W w' := by
  obtain ⟨F, xs, hF, ha⟩ := row_data h
  exact Ai.law_calls (F := F) (args := [.sl .byte xs]) (vs := [.slice a0 len0 cap0]) Ai.Dn.ok3 Tryz.func3 (by kernel_rfl) (by kernel_rfl) hF ⟨_, [], rfl, ha, rfl⟩ (fun K hk => hk)

theorem lifted (os : Os) (started : os.Started) (H : Type) (enc : TypeId × Value → H) :
    ReturnsInHanded {} Tryz.checked os 3 .any (Rows.dumpNilSpec.pre6 enc Tryz.prog Tryz.f3 Rows.dumpNilRow.domain false) (Rows.dumpNilSpec.post enc Tryz.prog Tryz.f3 false true false false) := by
  refine returnsInHanded_of_change_sized (C := Tryz.checked) own started (by kernel_rfl) Tryz.func3
    (ChangeSpec.witness6 (enc := enc) (C := Tryz.checked) false ⟨#[], #[.slice none 0 0], []⟩ 8 (by kernel_rfl) (by kernel_rfl) (by kernel_rfl) (by kernel_rfl)) ?_
  intro W base args ds gs before hval0 hW hcnd hsz0 _
  have hval : ∀ (j : Nat) t v, Tryz.f3.params[j]? = some t → args[j]? = some v → Value.okWide Tryz.prog W .any base t v := hval0
  have hW' := hW
  obtain ⟨p, q, hA0, hV, rfl, hfz, hnd⟩ := hW
  have hA : DataW.TrodAll enc Tryz.prog W 0 (fun _ => true) true Tryz.f3.params.toList args.toList ds p := hA0
  rw [Tryz.params3] at hA hval
  obtain ⟨v0, vs0, d0, ds0, p0, q0, hargs, rfl, rfl, h0, r0⟩ := trodAll_cons hA
  obtain ⟨rfl, rfl, rfl⟩ := trodAll_nil r0
  obtain rfl : args = #[v0] := by cases args; simp_all
  obtain ⟨rfl, rfl⟩ := trodVars_none hV
  obtain ⟨a0, len0, cap0, rfl⟩ := okWide_slice Tryz.underlying22 (hval 0 22 v0 rfl rfl)
  have k0 := h0
  have lt0 : ∀ x ∈ p0, x.block < W.heap.size := by obtain ⟨m, hm⟩ := k0; exact DataW.trod_lt m _ _ _ hm
  obtain ⟨z0, w0⟩ : ∃ zs, IsRow .u8 W a0 len0 cap0 zs := by
    obtain ⟨fuel, hf⟩ := h0
    rcases open_ints Tryz.underlying22 Tryz.underlying5 (by kernel_rfl) hf with ⟨hcs, _⟩ | ⟨x, l, c, zs, hcs, _, hl, hm, hz, _, hcell, hwz⟩
    · simp [Value.cells] at hcs
      obtain ⟨rfl, rfl, rfl⟩ := hcs
      exact ⟨[], .inl ⟨rfl, rfl, rfl, rfl⟩⟩
    · simp [Value.cells] at hcs
      obtain ⟨rfl, rfl, rfl⟩ := hcs
      exact ⟨zs, .inr ⟨_, rfl, hl, hm, by simpa using hz, hcell, hwz⟩⟩
  clear hA0 hval0 hsz0
  refine (walk a0 len0 cap0 z0 W w0).mono fun e W' ⟨he, bel⟩ => ?_
  subst he
  exact ⟨_, rfl, _, _, _, [], _, [], hW', trodAll_mk1 (shut_bool Tryz.underlying4 _), (trodAll_cons_mk (Below.trod laidOut (by kernel_rfl) (of_decide_eq_true (by kernel_rfl)) k0 bel lt0) trodAll_mk0), rfl, bel.frame _, fun h => by cases h⟩
theorem over : Rows.dumpNilRow.holds Tryz.pinned (OpenSpec.ofChange Rows.dumpNilSpec) :=
  OpenClaim.holds_of_wide 3 Tryz.f3 rfl rfl rfl rfl rfl rfl rfl ⟨rfl, rfl, rfl, rfl, rfl⟩ rfl rfl rfl rfl rfl (by kernel_rfl) Tryz.func3 (by kernel_rfl)
    (of_decide_eq_true (by kernel_rfl)) (by unfold Func.isWrapper; first | (rw [if_pos (by decide +kernel)]; kernel_rfl) | (rw [if_neg (by decide +kernel)]; exact ⟨rfl, rfl⟩))
    (fun os started H enc _ => lifted os started H enc)
theorem proved : Rows.DumpNilSaid := over
end Go.Proofs.YtjjobkpflphpiaaGreat.dumpNil
namespace Go.Proofs.YtjjobkpflphpiaaGreat
/-- The row, under a short name, for the claim. -/
theorem dumpNil_holds : Rows.DumpNilSaid := dumpNil.proved
#print axioms dumpNil_holds
end Go.Proofs.YtjjobkpflphpiaaGreat
