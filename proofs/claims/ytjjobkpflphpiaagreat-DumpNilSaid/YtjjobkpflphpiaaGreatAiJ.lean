/- Literals, new rows, conversions, places, as operations. -/
import Derived.Test.YtjjobkpflphpiaaGreatAiI
set_option linter.unusedVariables false
set_option linter.unusedSimpArgs false
namespace Go.Ai
section
variable {w : World} {F : Nat → Prop} {μ : Nat → Option Pl} {P : Program} {ρ : Type} {fin : ρ} {B : Base}

/-- The table is right. -/
def TabOk (P : Program) (T : Nat → TI) : Prop := ∀ t, TyOk P t (T t)

theorem place_struct {T : Nat → TI} (hT : TabOk P T) {t : Nat} {fs : List (Nat × Nat)} (hk : (T t).kind = .struct fs) {fields : Array Field} (hu : P.underlying t = some (.struct fields)) : fields.toList.map (fun f => (f.offset, f.type)) = fs := by
  obtain ⟨fields', h1, h2⟩ := (hT t).kstruct fs hk
  rw [hu] at h1
  cases h1
  exact h2

theorem build_ok {T : Nat → TI} (hT : TabOk P T) {t : Nat} {parts : List (Nat × AV)} {vparts : List (Nat × Value)} {cs : List AV} (h1 : parts.map (·.1) = vparts.map (·.1)) (h2 : ARs w F μ (parts.map (·.2)) (vparts.map (·.2)))
    (hsz : 1 ≤ (T t).size) (hall : ∀ p ∈ parts, ∀ x, placeIn T t p.1 = some x → 1 ≤ x.2) (h : fillCells T (placeIn T t) (T t).zero parts = some cs) (hk : (∃ fs, (T t).kind = .struct fs) ∨ ∃ n e, (T t).kind = .arr n e ∧ 1 ≤ (T e).size)
    (hkf : ∀ fs, (T t).kind = .struct fs → ∀ p ∈ fs, 1 ≤ (T p.2).size) :
    ∃ v, (Instr.build t vparts.toArray).run P w = .ok v w ∧ AR w F μ (.agg cs) v := by
  obtain ⟨i, hi, hisz, hib, z, hz, hzs, hza⟩ := (hT t).info hsz
  obtain ⟨ha, ho⟩ := hza w F μ
  rcases hk with ⟨fs, hk⟩ | ⟨n, e, hk, hes⟩
  · obtain ⟨fields, hu, hfs⟩ := (hT t).kstruct fs hk
    have hsize : ∀ f ∈ fields.toList, (sizeOf f.type).run P w = .ok (T f.type).size w := by
      intro f hf
      have hm : (f.offset, f.type) ∈ fs := by rw [← hfs]; exact List.mem_map.2 ⟨f, hf, rfl⟩
      obtain ⟨j, hj, hjs, _⟩ := (hT f.type).info (hkf fs hk _ hm)
      simp [sizeOf, typeInfo, hj, hjs]
    have hmap : (fields.mapM fun f => do pure (f.offset, ← sizeOf f.type) : Sem (Array (Nat × Nat))).run P w = .ok (fields.map fun f => (f.offset, (T f.type).size)) w := by
      rw [Array.mapM_eq_mapM_toList]
      have : ∀ l : List Field, (∀ f ∈ l, (sizeOf f.type).run P w = .ok (T f.type).size w) → (l.mapM fun f => do pure (f.offset, ← sizeOf f.type) : Sem (List (Nat × Nat))).run P w = .ok (l.map fun f => (f.offset, (T f.type).size)) w := by
        intro l
        induction l with
        | nil => intro _; rfl
        | cons f r ih =>
          intro hl
          have h1 := hl f (by simp)
          have h2 := ih (fun g hg => hl g (by simp [hg]))
          rw [List.mapM_cons]
          simp only [Sem.run_bind, h1, h2, Result.andThen_ok, Sem.run_pure, List.map_cons]
      have := this fields.toList hsize
      rw [Sem.run_map, this]
      simp only [Result.andThen_ok]
      congr 1
      apply Array.ext'
      simp
    have hpl : ∀ i x, placeIn T t i = some x → (fields.map fun f => (f.offset, (T f.type).size))[i]? = some x := by
      intro i x hx
      unfold placeIn at hx
      rw [hk] at hx
      simp only at hx
      split at hx
      · rename_i off ft hf
        cases hx
        rw [← hfs] at hf
        simp at hf
        obtain ⟨f, hf1, rfl, rfl⟩ := hf
        simp [hf1]
      · cases hx
    obtain ⟨cells', k1, k2, k3⟩ := fill_ok hpl (cells := z.cells.toList) h1 h2 ha ho h
    refine ⟨.agg cells'.toArray, ?_, cells', rfl, k2, k3⟩
    simp only [Array.toArray_toList] at k1
    simp only [Instr.build, Sem.run_bind, zeroValue, typeInfo, run_program, Result.andThen_ok, hi, hz, Sem.run_pure, underlying, hu, hmap, k1]
  · have hu := (hT t).karr n e hk
    obtain ⟨j, hj, hjs, _⟩ := (hT e).info hes
    have hpl : ∀ i x, placeIn T t i = some x → (fun i => some (i * (T e).size, (T e).size) : Nat → Option (Nat × Nat)) i = some x := by
      intro i x hx
      unfold placeIn at hx
      rw [hk] at hx
      exact hx
    obtain ⟨cells', k1, k2, k3⟩ := fill_ok hpl (cells := z.cells.toList) h1 h2 ha ho h
    refine ⟨.agg cells'.toArray, ?_, cells', rfl, k2, k3⟩
    simp only [Array.toArray_toList] at k1
    simp [Instr.build, zeroValue, typeInfo, hi, hz, underlying, hu, sizeOf, hj, hjs, k1]

theorem buildSlice_ok {s : St} {a : Act} (hr : Rel B w F μ s a) {t e : Nat} (hu : P.underlying t = some (.slice e)) {te : TI} (hte : TyOk P e te) {ty : Ty} (hty : te.ty = some ty) {len : Nat} (hlen : len ≤ 1000) (hsz : te.size ≤ 1000) {avs : List AV} {vs : List Value} (hv : ARs w F μ avs vs) (hvl : vs.length = len) {xs : List ty.D} (hx : packAll ty avs = some xs) :
    ∃ v w' μ', (Instr.buildSlice t len ((List.range len).zip vs).toArray).run P w = .ok v w' ∧ Rel B w' F μ' (s.new (.row ty xs)) a ∧ AR w' F μ' (.own s.nx) v := by
  obtain ⟨htsz, ht1⟩ := hte.ty ty hty
  obtain ⟨i, hi, hisz, hib, z, hz, hzs, hza⟩ := hte.info ht1
  obtain ⟨hxl, hxe⟩ := packAll_ok hv hx
  have hvs : ∀ v ∈ vs, v.cells.size = te.size := by
    intro v hm
    obtain ⟨k, hk, rfl⟩ := List.getElem_of_mem hm
    obtain ⟨u, hu, hr⟩ := hxe k _ (List.getElem?_eq_getElem (by omega))
    rw [List.getElem?_eq_getElem hk] at hu
    cases hu
    have := Rp_len hr
    rw [htsz] at this
    simpa using this
  have hzl : (if len * te.size = 0 then (pure #[] : Sem (Array Value)) else do pure (← zeroValue e).cells).run P w = .ok (if len * te.size = 0 then #[] else z.cells) w := by
    split <;> simp [zeroValue, typeInfo, hi, hz]
  obtain ⟨cells, hcells⟩ : ∃ cells : List Value, ((Array.range (len * te.size)).map ((if len * te.size = 0 then #[] else z.cells)[· % (if len * te.size = 0 then #[] else z.cells).size]!)) = cells.toArray ∧ cells.length = len * te.size := ⟨_, (Array.toArray_toList).symm, by simp⟩
  have hfill := fill_row te.size vs 0 cells hvs (by rw [hcells.2]; simp [hvl])
  rw [show (List.range' 0 vs.length) = List.range len from by rw [hvl, List.range_eq_range']] at hfill
  simp only [Nat.zero_mul, List.take_zero, List.nil_append] at hfill
  have hbig : ¬ (len * te.size > 2 ^ 24) := by
    have : len * te.size ≤ 1000 * 1000 := Nat.mul_le_mul hlen hsz
    omega
  have hflat := flat_of_vals hxl hxe
  obtain ⟨μ', hr', ha'⟩ := hr.newRow (w' := { w with heap := w.heap.push (.cells (vs.flatMap fun v => v.cells.toList).toArray e) }) (c := (vs.flatMap fun v => v.cells.toList).toArray) (e := e) (lo := 0) (hi := 0) rfl rfl rfl rfl (fun o _ h => by omega) hflat (fun j u hj => by simpa using hj) (cap := len) (by omega) (by omega) (by
      have := hflat.1
      simp only [List.size_toArray, this, hxl, hvl]
      exact Nat.le_refl _)
  refine ⟨_, _, μ', ?_, hr', ha'⟩
  rw [show xs.length = len from by omega]
  by_cases h0 : len * te.size = 0
  · rw [if_pos h0] at hcells
    simp only [Instr.buildSlice, Sem.run_bind, underlying, sizeOf, typeInfo, run_program, Result.andThen_ok, hu, hi, hisz, Sem.run_pure, hbig, if_false, if_pos h0, hcells.1, hfill, newRow, run_newObj]
  · rw [if_neg h0] at hcells
    simp only [Instr.buildSlice, Sem.run_bind, underlying, sizeOf, typeInfo, zeroValue, run_program, Result.andThen_ok, hu, hi, hz, hisz, Sem.run_pure, hbig, if_false, if_neg h0, hcells.1, hfill, newRow, run_newObj]

theorem makeSlice_ok {s : St} {a : Act} (hr : Rel B w F μ s a) {t e : Nat} (hu : P.underlying t = some (.slice e)) {te : TI} (hte : TyOk P e te) {ty : Ty} (hty : te.ty = some ty) {n m : Int} (h0 : 0 ≤ n) (h1 : n ≤ m) (h2 : m ≤ (lim : Int)) (hb : te.bytes ≤ 10000) :
    ∃ v w' μ', (Instr.makeSlice t (.int .i64 n) (.int .i64 m)).run P w = .ok v w' ∧ Rel B w' F μ' (s.new (.row ty (List.replicate n.toNat ty.dflt))) a ∧ AR w' F μ' (.own s.nx) v := by
  obtain ⟨htsz, ht1⟩ := hte.ty ty hty
  obtain ⟨i, hi, hisz, hib, z, hz, hzs, hza⟩ := hte.info ht1
  have hdf := hte.dflt ty hty i z hi hz w F
  have hlim : (lim : Int) = 4294967296 := rfl
  have wn : IntKind.i64.wrap n = n := by simp only [IntKind.wrap, IntKind.signed, IntKind.bits]; simp; omega
  have wm : IntKind.i64.wrap m = m := by simp only [IntKind.wrap, IntKind.signed, IntKind.bits]; simp; omega
  have hbig : (m < 0 || (i.bytes : Int) * m > 2 ^ 48) = false := by
    have : (i.bytes : Int) * m ≤ 10000 * 4294967296 := Int.mul_le_mul (by omega) (by omega) (by omega) (by omega)
    simp; omega
  have hzp : 0 < z.cells.size := by rw [hzs]; omega
  let C : Array Value := (Array.range (m.toNat * te.size)).map ((if m.toNat * te.size = 0 then #[] else z.cells)[· % (if m.toNat * te.size = 0 then #[] else z.cells).size]!)
  have hC : ∀ (k : Nat), k < m.toNat → ∀ j u, z.cells[j]? = some u → C[k * te.size + j]? = some u := by
    intro k hk j u hj
    have hjl : j < te.size := by rw [← hzs]; exact (Array.getElem?_eq_some_iff.1 hj).1
    have h3 : (k + 1) * te.size ≤ m.toNat * te.size := Nat.mul_le_mul_right _ (by omega)
    rw [Nat.add_mul] at h3
    have hne : ¬ m.toNat * te.size = 0 := by omega
    simp only [C, if_neg hne]
    rw [Array.getElem?_map, Array.getElem?_range]
    rw [if_pos (by omega)]
    simp only [Option.map_some]
    have hmod : (k * te.size + j) % z.cells.size = j := by rw [hzs, Nat.mul_comm, Nat.mul_add_mod]; exact Nat.mod_eq_of_lt hjl
    rw [hmod]
    rw [getElem!_def, hj]
  obtain ⟨μ', hr', ha'⟩ := hr.newRow (w' := { w with heap := w.heap.push (.cells C e) }) (c := C) (e := e) (lo := 0) (hi := 0) rfl rfl rfl rfl (fun o _ h => by omega) (t := ty) (zs := List.replicate n.toNat ty.dflt) (vs := C.toList.take (n.toNat * te.size)) ⟨by
      have : n.toNat * te.size ≤ m.toNat * te.size := Nat.mul_le_mul_right _ (by omega)
      rw [List.length_take, Nat.min_eq_left (by simp [C]; omega)]
      simp [htsz], fun k x hk => by
      have hkl : k < n.toNat := by have := (List.getElem?_eq_some_iff.1 hk).1; simpa using this
      have hx : x = ty.dflt := by
        rw [List.getElem?_replicate, if_pos hkl] at hk
        exact (Option.some.inj hk).symm
      subst hx
      refine ⟨_, hdf, fun j u hj => ?_⟩
      have hjl : j < te.size := by rw [← htsz, ← Rp_len hdf]; exact (List.getElem?_eq_some_iff.1 hj).1
      have h3 : (k + 1) * te.size ≤ n.toNat * te.size := Nat.mul_le_mul_right _ (by omega)
      rw [Nat.add_mul] at h3
      rw [htsz, List.getElem?_take, if_pos (by omega), Array.getElem?_toList]
      exact hC k (by omega) j u (by simpa using hj)⟩ (fun j u hj => by
      rw [List.getElem?_take] at hj
      split at hj
      · simpa using hj
      · cases hj) (cap := m.toNat) (by simp; omega) (by omega) (by simp [C, htsz])
  refine ⟨_, _, μ', ?_, hr', ha'⟩
  rw [List.length_replicate]
  have hnl : ¬ (n < 0) := by omega
  have hnm : ¬ (n > m) := by omega
  have hcond : ((m < 0 || (i.bytes : Int) * m > 2 ^ 48) || n < 0 || n > m) = false := by rw [hbig]; simp [hnl]; omega
  have hinfo : ∀ w' : World, (typeInfo e).run P w' = .ok i w' := fun w' => by simp [typeInfo, hi]
  have e1 : (IntKind.i64.wrap n).toNat = n.toNat := by rw [wn]
  have hlarge : (decide (m < 0) || decide ((i.bytes : Int) * m > 2 ^ 48)) = false := by simpa using hbig
  by_cases hz0 : m.toNat * te.size = 0
  · have hCe : C = (Array.range (m.toNat * te.size)).map ((#[] : Array Value)[· % (#[] : Array Value).size]!) := by simp only [C, if_pos hz0]
    simp only [Instr.makeSlice, Sem.run_bind, underlying, run_program, Result.andThen_ok, hu, Sem.run_pure, asInt, asIntOf, hinfo, wn, wm]
    rw [if_neg (by simp only [hlarge]; simp; omega)]
    simp only [Sem.run_bind, run_askRoom, Result.andThen_ok, sizeOf, hinfo, hisz, Sem.run_pure, if_pos hz0, newRow, run_newObj, hCe]
  · have hCe : C = (Array.range (m.toNat * te.size)).map (z.cells[· % z.cells.size]!) := by simp only [C, if_neg hz0]
    simp only [Instr.makeSlice, Sem.run_bind, underlying, run_program, Result.andThen_ok, hu, Sem.run_pure, asInt, asIntOf, hinfo, wn, wm]
    rw [if_neg (by simp only [hlarge]; simp; omega)]
    simp only [Sem.run_bind, run_askRoom, Result.andThen_ok, sizeOf, hinfo, hisz, Sem.run_pure, if_neg hz0, newRow, run_newObj, hCe, zeroValue, hz]
end
end Go.Ai
