/- slices.Clone and slices.Grow at bytes: summaries. -/
import Derived.Test.YtjjobkpflphpiaaGreatAiDnB
import Derived.Test.YtjjobkpflphpiaaGreatAiDnC
set_option maxRecDepth 100000
set_option linter.unusedVariables false
set_option linter.unusedSimpArgs false
namespace Go.Ai
section
variable {P : Program} {B : Base} {w : World} {F : Nat → Prop} {μ : Nat → Option Pl}

/-- A row goes on under another number. -/
theorem Rel.move {s : St} {a : Act} (hr : Rel B w F μ s a) {id : Nat} {t : Ty} {xs : List t.D} (hl : lookO s.hp id = .row t xs) {p : Pl} (hp : μ id = some p) :
    ∃ μ', Rel B w F μ' ((s.setO id .gone).new (.row t xs)) a ∧ AR w F μ' (.own s.nx) p.val := by
  have hobj := hr.heap.obj id
  rw [hl] at hobj
  obtain ⟨q, hq, hrow⟩ := hobj
  rw [hp] at hq; cases hq
  have hk := hr.kill id
  have hun : μ s.nx = none ∨ μ s.nx = some p := .inl (hr.heap.unset _ (Nat.le_refl _))
  have hown : ∀ b, p.blk = some b → Owns μ s.hp id b := fun b hb => ⟨by rw [hl]; rfl, p, hp, hb⟩
  have A := hk.heap.put (id0 := s.nx) (o := .row t xs) (p0 := p) (nx' := s.nx + 1) (Stays.refl F w) (Nat.le_refl _) hun (fun _ _ _ _ => rfl) ⟨p, upd_same, hrow⟩
    (fun _ b' hb' => by
      refine ⟨hr.heap.dis id b' (hown b' hb'), fun id' hne ho' => ?_⟩
      obtain ⟨m, q, hq, hb⟩ := ho'
      by_cases hi2 : id' = id
      · subst hi2; simp only [St.setO] at m; rw [lookO_same] at m; cases m
      · simp only [St.setO] at m; rw [lookO_other _ _ hi2] at m
        exact hi2 (hr.heap.one _ _ _ ⟨m, q, hq, hb⟩ (hown b' hb'))) (by omega) (by simp [St.setO])
  have C := hk.ext.put (id0 := s.nx) (.inl (hk.heap.unset _ (Nat.le_refl _))) (o := .row t xs) (p0 := p) (w' := w) (Nat.le_refl _) (fun _ _ _ => rfl)
    (fun _ b' hb' => hr.ext.ole id b' (hown b' hb')) rfl rfl rfl
  exact ⟨upd μ s.nx p, hk.turn (Stays.refl F w) (upd_mono hun) A C, p, upd_same, rfl⟩
end
end Go.Ai
namespace Go.Ai.Dn
open Go.Proofs

theorem ok63 : SpecOk Tryz.prog 63 (adapt [.imm .byte] .keep (cl0 .byte)) := by
  refine adapt_ok (clone_ok (S := sumOf E0 ann63 pl63 9 Tryz.f63) (fun_ok mixed env0 Tryz.func63 (by kernel_rfl) _ _ _) .byte ?_ ?_) _ _
  · intro ρ K
    exact e63n 9 K
  · intro ρ K xs
    refine (e63 9 K xs).trans ?_
    rw [Nat.zero_add]
    rfl

noncomputable def vGrow {ρ : Type} (K : AV → List (Nat × AO) → Nat → Option ρ) (xs : List UInt8) (n : Int) : Option ρ :=
  bif lg xs && rg n 1000 then K (.own 1) [(1, .row .byte xs), (0, .gone), (0, .row .byte xs)] 2 else none
noncomputable def S98 : Summ := fun ρ args hp K => match args, hp with
  | [.own 0, .int .i64 n], [(0, .row .byte xs)] => vGrow K xs n
  | _, _ => none

theorem info5 : ∃ i z, Tryz.prog.info? 5 = some i ∧ i.zero = some z ∧ i.size = 1 ∧ i.bytes = 1 ∧ z.cells.size = 1 := by
  obtain ⟨i, hi, h1, h2, z, hz, h3, _⟩ := (tabOk_ok tabTrue 5).info (by decide)
  exact ⟨i, z, hi, hz, h1, h2, h3⟩

theorem ok98 : SpecOk Tryz.prog 98 S98 := by
  intro ρ fin args hp K h w F μ vs hrl ha
  unfold S98 at h
  split at h
  · rename_i n xs
    obtain ⟨hg, hk⟩ := bif_t h
    clear h
    rw [Bool.and_eq_true] at hg
    have hx : List.length xs ≤ 4294967296 := lg_is hg.1
    obtain ⟨n, rfl, hn⟩ := rg_is hg.2
    obtain ⟨v0, vr, rfl, ⟨p, hp, rfl⟩, v1, vr', rfl, ⟨rfl, _⟩, hvr⟩ := ha
    cases hvr
    have hc : (callFunc 98 #[p.val, .int .i64 n]).run Tryz.prog w = .ok (.enter 98 #[p.val, .int .i64 n]) w := by
      have hf := Tryz.func98
      have hname : (Tryz.f98.name == "runtime.NumGoroutine") = false := by kernel_rfl
      have hname' : ¬ Tryz.f98.name = "runtime.NumGoroutine" := by simpa using hname
      have hb : ∃ c, Tryz.f98.body = some c := ⟨_, rfl⟩
      obtain ⟨c, hb⟩ := hb
      simp [callFunc, hf, hname', hb]
    unfold Does
    have hc' : (callFunc 98 ([p.val, Value.int .i64 (n : Int)] : List Value).toArray).run Tryz.prog w = .ok (.enter 98 #[p.val, .int .i64 n]) w := hc
    rw [hc']
    simp only
    have hr0 := base_rel hrl
    have hobj := hrl.obj 0
    rw [show lookO [(0, AO.row .byte xs)] 0 = AO.row .byte xs from rfl] at hobj
    obtain ⟨q, hq, hrow⟩ := hobj
    rw [hp] at hq; cases hq
    have hrow0 := hrow
    obtain ⟨hsz, hrow⟩ := hrow
    have hplen : p.len = List.length xs := by
      rcases hrow with ⟨_, _, k3, _, rfl⟩ | ⟨b, c, e, lo, hi, k1, k2, k3, _⟩
      · exact k3
      · exact k3
    have hlc : p.len ≤ p.cap := by
      rcases hrow with ⟨_, _, k3, k4, rfl⟩ | ⟨b, c, e, lo, hi, k1, k2, k3, k4, _⟩
      · omega
      · omega
    by_cases hroom : p.len + n ≤ p.cap
    · refine Calls.mono (grow_room p.adr p.len p.cap n w hlc p.ok (by omega) hroom) ?_
      rintro e w' ⟨rfl, rfl⟩
      obtain ⟨μ', h1, h2⟩ := hr0.move (id := 0) (t := .byte) (xs := xs) rfl hp
      exact ⟨_, _, _, F, μ', hk, h1.heap, h2, h1.ext⟩
    · obtain ⟨i0, z, hi, hz, hs, hb, hzc⟩ := info5
      obtain ⟨cs, hcl, hcs, hflat⟩ : ∃ cs : List Value, cs.length = p.cap ∧ (∀ a, p.adr = some a → ∀ j v, cs[j]? = some v → w.cell? (a.add j) = some v) ∧ FlatR w F .byte xs (cs.take (List.length xs)) := by
        rcases hrow with ⟨_, k2, k3, k4, rfl⟩ | ⟨b, c, e, lo, hi, k1, k2, k3, k4, k5, k6, k7, k8⟩
        · refine ⟨[], k4.symm, fun a ha => ?_, by simpa using FlatR.nil⟩; rw [k2] at ha; cases ha
        · have k7 : p.sh + p.cap ≤ c.size := by simpa [Ty.sz] using k7
          refine ⟨(c.toList.drop p.sh).take p.cap, by simp; omega, ?_, ?_, ?_⟩
          · intro a ha j v hj
            rw [k2] at ha
            cases ha
            rw [add_eq, cell_of_heap k5]
            have hjl : j < p.cap := by
              have := (List.getElem?_eq_some_iff.1 hj).1
              simp at this; omega
            rw [List.getElem?_take, if_pos hjl, List.getElem?_drop] at hj
            simpa using hj
          · simp [Ty.sz]; omega
          · intro j x hj
            obtain ⟨ys, m1, m2, m3⟩ := k8 j x hj
            have hjl : j < List.length xs := (List.getElem?_eq_some_iff.1 hj).1
            refine ⟨ys, m1, fun k u hk => ?_⟩
            have hkl : k < 1 := by
              have := (List.getElem?_eq_some_iff.1 hk).1
              have h3 : ys.length = 1 := m2
              omega
            have h0 : k = 0 := by omega
            subst h0
            have := m3 0 u hk
            simp only [Ty.sz, Nat.mul_one, Nat.add_zero] at this ⊢
            rw [List.getElem?_take, if_pos hjl, List.getElem?_take, if_pos (by omega), List.getElem?_drop]
            simpa using this
      refine Calls.mono (grow_grow i0 z hi hz (by omega) p.adr p.len p.cap n cs w hlc (by omega) (by rw [hb]; omega) (by omega) (by rw [hs]; omega) ?_ hcs) ?_
      · intro hnone
        rcases hrow with ⟨_, _, _, k4, _⟩ | ⟨b, c, e, lo, hi, k1, k2, _⟩
        · exact k4
        · rw [hnone] at k2; cases k2
      · rintro e w' ⟨rfl, rfl⟩
        have hG1 : p.len + n ≤ grownCap w (p.len + n) p.cap 5 := grownCap_ge w _ _ _
        have hG2 := grownCap_le_maxLen w (p.len + n) p.cap 5 (by unfold maxLen; omega)
        have := (hr0.kill 0).newRow (w' := w.drew.alloc (.cells (cs.toArray ++ Builtin.zeroCells z.cells (p.len + n - p.cap) ++ Builtin.zeroCells z.cells (grownCap w (p.len + n) p.cap 5 - (p.len + n))) 5))
          (c := cs.toArray ++ Builtin.zeroCells z.cells (p.len + n - p.cap) ++ Builtin.zeroCells z.cells (grownCap w (p.len + n) p.cap 5 - (p.len + n))) (e := 5) (lo := 0) (hi := 0) rfl rfl rfl rfl (fun o _ h => by omega) hflat
          (fun j u hj => by
            have hlt : j < (cs.take (List.length xs)).length := (List.getElem?_eq_some_iff.1 hj).1
            have hlt2 : j < List.length xs ∧ j < cs.length := by simp at hlt; omega
            rw [List.getElem?_take, if_pos hlt2.1] at hj
            rw [← Array.getElem?_toList]
            simp only [Array.toList_append]
            rw [List.append_assoc, List.getElem?_append_left (by simpa using hlt2.2)]
            exact hj) (cap := grownCap w (p.len + n) p.cap 5) (by omega) (by unfold maxLen at hG2; omega) (by
            simp only [Array.size_append, List.size_toArray, zeros_len, hzc, hcl, Ty.sz]
            omega)
        obtain ⟨μ', h1, h2⟩ := this
        rw [← hplen] at h2
        exact ⟨_, _, _, F, μ', hk, h1.heap, h2, h1.ext⟩
  · cases h
end Go.Ai.Dn
