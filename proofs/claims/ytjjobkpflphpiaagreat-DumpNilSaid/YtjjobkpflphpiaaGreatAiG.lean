/- Rows that grow. -/
import Derived.Test.YtjjobkpflphpiaaGreatAiF
set_option linter.unusedVariables false
set_option linter.unusedSimpArgs false
namespace Go.Ai
section
variable {w : World} {F : Nat → Prop} {μ : Nat → Option Pl} {P : Program} {ρ : Type} {fin : ρ} {B : Base}

/-- Elements laid out as cells. -/
def FlatR (w : World) (F : Nat → Prop) (t : Ty) (xs : List t.D) (vs : List Value) : Prop :=
  vs.length = xs.length * t.sz ∧ ∀ (i : Nat) (x : t.D), xs[i]? = some x → ∃ ys, Rp w F t x ys ∧ ∀ j u, ys[j]? = some u → vs[i * t.sz + j]? = some u

theorem FlatR.nil {t : Ty} : FlatR w F t [] [] := ⟨by simp, fun i x h => by simp at h⟩

theorem FlatR.app {t : Ty} {xs ys : List t.D} {vs us : List Value} (h : FlatR w F t xs vs) (k : FlatR w F t ys us) : FlatR w F t (xs ++ ys) (vs ++ us) := by
  refine ⟨by simp [h.1, k.1, Nat.add_mul], fun i x hi => ?_⟩
  by_cases hlt : i < xs.length
  · rw [List.getElem?_append_left hlt] at hi
    obtain ⟨zs, h1, h2⟩ := h.2 i x hi
    refine ⟨zs, h1, fun j u hj => ?_⟩
    have hjl : j < t.sz := by rw [← Rp_len h1]; exact (List.getElem?_eq_some_iff.1 hj).1
    have : (i + 1) * t.sz ≤ xs.length * t.sz := Nat.mul_le_mul_right _ (by omega)
    rw [Nat.add_mul] at this
    rw [List.getElem?_append_left (by rw [h.1]; omega)]
    exact h2 j u hj
  · rw [List.getElem?_append_right (by omega)] at hi
    obtain ⟨zs, h1, h2⟩ := k.2 _ x hi
    refine ⟨zs, h1, fun j u hj => ?_⟩
    have : xs.length * t.sz ≤ i * t.sz := Nat.mul_le_mul_right _ (by omega)
    rw [List.getElem?_append_right (by rw [h.1]; omega), h.1]
    have := h2 j u hj
    rw [Nat.sub_mul] at this
    rw [← this]
    congr 1
    omega

theorem FlatR.one {t : Ty} {xs : List t.D} {vs : List Value} (h : FlatR w F t xs vs) : ∀ u ∈ vs, u.oneCell' = true := by
  intro u hu
  obtain ⟨k, hk, rfl⟩ := List.getElem_of_mem hu
  have hz := t.sz_pos
  have hlt : k / t.sz < xs.length := by rw [Nat.div_lt_iff_lt_mul hz]; rw [← h.1]; exact hk
  obtain ⟨ys, h1, h2⟩ := h.2 (k / t.sz) _ (List.getElem?_eq_getElem hlt)
  have hm : k % t.sz < ys.length := by rw [Rp_len h1]; exact Nat.mod_lt _ hz
  have := h2 (k % t.sz) _ (List.getElem?_eq_getElem hm)
  rw [show k / t.sz * t.sz + k % t.sz = k from by rw [Nat.mul_comm]; exact Nat.div_add_mod k t.sz] at this
  rw [List.getElem?_eq_getElem hk] at this
  have e := Option.some.inj this
  rw [e]
  exact Rp_one h1 _ (List.getElem_mem hm)

theorem FlatR.mono {w' : World} {F' : Nat → Prop} {t : Ty} {xs : List t.D} {vs : List Value} (hF : ∀ b, F b → F' b) (hw : Stays F w w') (h : FlatR w F t xs vs) : FlatR w' F' t xs vs :=
  ⟨h.1, fun i x hi => by obtain ⟨ys, h1, h2⟩ := h.2 i x hi; exact ⟨ys, Rp_mono hF hw h1, h2⟩⟩

/-- A source's cells, as the builtins read them. -/
def Src (P : Program) (w : World) (F : Nat → Prop) (t : Ty) (ys : List t.D) (v : Value) : Prop :=
  (∀ w', (Builtin.lenOf v).run P w' = .ok ys.length w') ∧ ∃ vs, FlatR w F t ys vs ∧ ∀ w' : World, w'.heap = w.heap → (Builtin.firstCells t.sz ys.length v).run P w' = .ok vs.toArray w'

theorem src_slice {t : Ty} {xs : List t.D} {v : Value} (h : Rp w F (.list t) xs [v]) : Src P w F t xs v := by
  obtain ⟨A, c, hv, hl, he⟩ := h
  cases hv
  refine ⟨fun _ => rfl, ?_⟩
  rcases Nat.eq_zero_or_pos (List.length xs) with h0 | h0
  · obtain rfl : xs = [] := List.eq_nil_of_length_eq_zero h0
    refine ⟨[], FlatR.nil, fun w' hw => ?_⟩
    cases A with
    | none => rfl
    | some a => simp [Builtin.firstCells, loadCells, loadCellsFrom]
  · obtain ⟨b, off, ys0, rfl, hb, _⟩ := he 0 _ (List.getElem?_eq_getElem h0)
    have he' : ∀ (i : Nat) (x : t.D), (show List t.D from xs)[i]? = some x → ∃ ys, Rp w F t x ys ∧ ∀ j u, ys[j]? = some u → w.cell? ⟨b, off + i * t.sz + j, none⟩ = some u := by
      intro i x hi
      obtain ⟨b', off', ys, hA, _, h1, _, h2⟩ := he i x hi
      cases hA
      exact ⟨ys, h1, h2⟩
    refine ⟨(List.range (xs.length * t.sz)).map fun k => (w.cell? ⟨b, off + k, none⟩).getD undef, ⟨by simp, fun i x hi => ?_⟩, ?_⟩
    · obtain ⟨ys, h1, h2⟩ := he' i x hi
      refine ⟨ys, h1, fun j u hj => ?_⟩
      have hjl : j < t.sz := by rw [← Rp_len h1]; exact (List.getElem?_eq_some_iff.1 hj).1
      have hil : i < xs.length := (List.getElem?_eq_some_iff.1 hi).1
      have : (i + 1) * t.sz ≤ xs.length * t.sz := Nat.mul_le_mul_right _ (by omega)
      rw [Nat.add_mul] at this
      rw [List.getElem?_map, List.getElem?_range (by omega)]
      have := h2 j u hj
      rw [Nat.add_assoc] at this
      simp [this]
    · intro w' hw
      refine run_loadCells w' _ _ _ (fun k hk => ?_)
      rw [add_eq, show w'.cell? ⟨b, off + k, none⟩ = w.cell? ⟨b, off + k, none⟩ from by simp only [World.cell?, hw]]
      have hz := t.sz_pos
      have hlt : k / t.sz < xs.length := by rw [Nat.div_lt_iff_lt_mul hz]; exact hk
      obtain ⟨ys, h1, h2⟩ := he' (k / t.sz) _ (List.getElem?_eq_getElem hlt)
      have hm : k % t.sz < ys.length := by rw [Rp_len h1]; exact Nat.mod_lt _ hz
      have := h2 (k % t.sz) _ (List.getElem?_eq_getElem hm)
      rw [Nat.add_assoc, show k / t.sz * t.sz + k % t.sz = k from by rw [Nat.mul_comm]; exact Nat.div_add_mod k t.sz] at this
      rw [this]
      rfl

theorem row_flat {p : Pl} {t : Ty} {xs : List t.D} (h : RowR w F p t xs) : Src P w F t xs p.val ∧ p.len = xs.length := by
  obtain ⟨hsz, h⟩ := h
  rcases h with ⟨h1, h2, h3, h4, rfl⟩ | ⟨b, c, e, lo, hi, h1, h2, h3, h4, h5, h6, h7, h8⟩
  · refine ⟨⟨fun _ => by simp [Pl.val, Builtin.lenOf, h3], [], FlatR.nil, fun w' hw => ?_⟩, h3⟩
    simp [Pl.val, h2, Builtin.firstCells]
  · refine ⟨⟨fun _ => by simp [Pl.val, Builtin.lenOf, h3], (List.range (xs.length * t.sz)).map fun k => (c[p.sh + k]?).getD undef, ⟨by simp, fun i x hi => ?_⟩, ?_⟩, h3⟩
    · obtain ⟨ys, k1, k2, k3⟩ := h8 i x hi
      refine ⟨ys, k1, fun j u hj => ?_⟩
      have hjl : j < t.sz := by rw [← Rp_len k1]; exact (List.getElem?_eq_some_iff.1 hj).1
      have hil : i < xs.length := (List.getElem?_eq_some_iff.1 hi).1
      have : (i + 1) * t.sz ≤ xs.length * t.sz := Nat.mul_le_mul_right _ (by omega)
      rw [Nat.add_mul] at this
      rw [List.getElem?_map, List.getElem?_range (by omega)]
      have := k3 j u hj
      rw [Nat.add_assoc] at this
      simp [this]
    · intro w' hw
      simp only [Pl.val, h2, Builtin.firstCells]
      refine run_loadCells w' _ _ _ (fun k hk => ?_)
      rw [add_eq, cell_of_heap (w := w') (by rw [hw]; exact h5)]
      have hz := t.sz_pos
      have hcl : xs.length * t.sz ≤ p.cap * t.sz := Nat.mul_le_mul_right _ h4
      rw [Array.getElem?_eq_getElem (show p.sh + k < c.size by omega)]
      rfl

theorem seq_ok {nx : Nat} {s : St} (hr : Rl w F μ s.hp nx) {y : AV} {v : Value} (hy : AR w F μ y v) {t : Ty} {ys : List t.D} (h : seqAs t (seqOf s.hp y) = some ys) : Src P w F t ys v := by
  have data : ∀ {t' : Ty} {xs : List t'.D}, seqAs t (.data t' xs) = some ys → Src P w F t' xs v → Src P w F t ys v := by
    intro t' xs h hs
    simp only [seqAs] at h
    split at h
    · rename_i he
      subst he
      cases h
      exact hs
    · cases h
  cases y <;> simp only [seqOf] at h <;> (try (cases h; done))
  case nils =>
    cases hy
    simp only [seqAs] at h
    cases h
    exact ⟨fun _ => rfl, [], FlatR.nil, fun _ _ => rfl⟩
  case sl t' xs => exact data h (src_slice hy)
  case sn t' xs => exact data h (src_slice hy.1)
  case str b =>
    cases hy
    simp only [seqAs] at h
    split at h
    · rename_i he
      subst he
      cases h
      refine ⟨fun _ => by simp [Builtin.lenOf, ByteArray.size, cast]; rfl, b.map fun x => .int .u8 (UInt8.toNat x), ⟨by simp [cast, Ty.sz]; rfl, fun i x hi => ⟨[.int .u8 (UInt8.toNat x)], rfl, fun j u hj => ?_⟩⟩, ?_⟩
      · cases j with
        | zero => simp at hj; subst hj; simp [cast, Ty.sz] at hi ⊢; exact ⟨x, hi, rfl⟩
        | succ j => simp at hj
      · intro w' hw
        simp only [Builtin.firstCells]
        show Result.ok _ _ = _
        congr 1
        have : (ByteArray.mk b.toArray).extract 0 (List.length b) = ByteArray.mk b.toArray := by
          apply ByteArray.ext
          simp [ByteArray.data_extract]
        rw [show (List.length (cast (rfl : Ty.byte = Ty.byte) b)) = b.length from rfl, this]
        simp
    · cases h
  case own id =>
    obtain ⟨p, h1, rfl⟩ := hy
    have ho := hr.obj id
    split at h
    · rename_i t' xs hl
      rw [hl] at ho
      obtain ⟨q, hq, hrow⟩ := ho
      rw [h1] at hq; cases hq
      exact data h (row_flat hrow).1
    · rename_i t' xs hl
      rw [hl] at ho
      obtain ⟨q, hq, hrow, _⟩ := ho
      rw [h1] at hq; cases hq
      exact data h (row_flat hrow).1
    · cases h

theorem growBy_le (n : Nat) : ∀ (r c : Nat), c ≤ 2 * n + 192 → Builtin.growBy n r c ≤ 2 * n + 192
  | 0, c, h => h
  | r + 1, c, h => by
    simp only [Builtin.growBy]
    split
    · exact h
    · exact growBy_le n r _ (by omega)

theorem nextcap_le (n c : Nat) : Builtin.nextslicecap n c ≤ 2 * n + 192 ∨ n ≤ c := by
  by_cases h : n ≤ c
  · exact .inr h
  · left
    simp only [Builtin.nextslicecap]
    split
    · omega
    · split
      · omega
      · exact growBy_le n 4 c (by omega)

theorem zeros_len {z : Array Value} {n : Nat} : (Builtin.zeroCells z n).size = n * z.size := by simp [Builtin.zeroCells]

theorem append_run {t : Ty} {sT xT e : Nat} {d : TypeDesc} (hs : P.underlying sT = some (.slice e)) (hx : P.underlying xT = some d) (hd : ∀ k, d ≠ .int k)
    {i : TypeInfo} (hi : P.info? e = some i) (hsz : i.size = t.sz) (hb1 : 1 ≤ i.bytes) (hb2 : i.bytes ≤ 10000) {z : Value} (hz : i.zero = some z) (hzs : z.cells.size = t.sz)
    {ys : List t.D} {v : Value} {us : List Value} (hl : ∀ w', (Builtin.lenOf v).run P w' = .ok ys.length w') (hf : ∀ w' : World, w'.heap = w.heap → (Builtin.firstCells t.sz ys.length v).run P w' = .ok us.toArray w') (hus : ∀ u ∈ us, u.oneCell' = true)
    (base : Option Addr) (len cap : Nat) (hlim : len + ys.length ≤ 2 ^ 33) (ty : TypeId) :
    (len + ys.length ≤ cap ∧ (base = none → us = [] → (Builtin.append_ #[sT, xT] ty #[.slice base len cap, v]).run P w = .ok (.slice base (len + ys.length) cap) w) ∧ ∀ b o, base = some ⟨b, o, none⟩ → ∀ c e' lo hi, w.heap[b]? = some (.cells c e' (lo, hi)) → (∀ o, o < c.size → ¬ (lo ≤ o ∧ o < hi)) → o + len * t.sz + us.length ≤ c.size →
      (Builtin.append_ #[sT, xT] ty #[.slice base len cap, v]).run P w = .ok (.slice base (len + ys.length) cap) (w.setCells b (o + len * t.sz) us)) ∨
    (¬ len + ys.length ≤ cap ∧ ∀ old : List Value, (∀ w' : World, w'.heap = w.heap → (Builtin.firstCells t.sz len (.slice base len cap)).run P w' = .ok old.toArray w') → ∃ nc, len + ys.length ≤ nc ∧ nc ≤ 9223372036854775807 ∧ ∃ rest : Array Value, rest.size = (nc - (len + ys.length)) * t.sz ∧
      (Builtin.append_ #[sT, xT] ty #[.slice base len cap, v]).run P w = .ok (.slice (some ⟨w.heap.size, 0, none⟩) (len + ys.length) nc) { w with drawn := w.drawn + 1, heap := w.heap.push (.cells (old.toArray ++ us.toArray ++ rest) e) }) := by
  have hu : ∀ w' : World, (underlying sT).run P w' = .ok (.slice e) w' := fun w' => by simp [underlying, hs]
  have hux : ∀ w' : World, (underlying xT).run P w' = .ok d w' := fun w' => by simp [underlying, hx]
  have hsize : ∀ w' : World, (sizeOf e).run P w' = .ok t.sz w' := fun w' => by simp [sizeOf, typeInfo, hi, hsz]
  have hinfo : ∀ w' : World, (typeInfo e).run P w' = .ok i w' := fun w' => by simp [typeInfo, hi]
  have hzero : ∀ w' : World, (zeroValue e).run P w' = .ok z w' := fun w' => by simp [zeroValue, typeInfo, hi, hz]
  have hdf : (match d with | .int _ => true | _ => false) = false := by cases d <;> first | rfl | exact absurd rfl (hd _)
  by_cases hfit : len + ys.length ≤ cap
  · left
    refine ⟨hfit, fun hb hu0 => ?_, fun b o hbase c e' lo hi' hheap hfz hroom => ?_⟩
    · subst hb; subst hu0
      cases d <;> first | exact absurd rfl (hd _) | simp only [Builtin.append_, List.getElem?_toArray, List.getElem?_cons_zero, List.getElem?_cons_succ, Sem.run_bind, hu, hux, hsize, hl, Result.andThen_ok, Sem.run_pure, Bool.false_eq_true, Bool.not_false, if_false, if_true, hfit, hf w rfl]
    · subst hbase
      have hst := run_storeCells_cells (P := P) b (o + len * t.sz) us 0 w (fun j hj => by
        rw [cell_of_heap hheap]
        simp; omega) (fun j hj => by
        have := hfz (o + len * t.sz + 0 + j) (by omega)
        simp only [World.frozen?, hheap]
        simp; omega) hus
      simp only [Nat.add_zero] at hst
      cases d <;> first | exact absurd rfl (hd _) | simp only [Builtin.append_, List.getElem?_toArray, List.getElem?_cons_zero, List.getElem?_cons_succ, Sem.run_bind, hu, hux, hsize, hl, Result.andThen_ok, Sem.run_pure, Bool.false_eq_true, Bool.not_false, if_false, if_true, hfit, hf w rfl, add_eq, hst]
  · right
    refine ⟨hfit, fun old hold => ?_⟩
    have hnc : Builtin.nextslicecap (len + ys.length) cap ≤ 2 * (len + ys.length) + 192 := by
      rcases nextcap_le (len + ys.length) cap with h | h
      · exact h
      · exact absurd h hfit
    have hbig : ¬ (Builtin.nextslicecap (len + ys.length) cap * i.bytes > 2 ^ 48) := by
      have : Builtin.nextslicecap (len + ys.length) cap * i.bytes ≤ (2 * 2 ^ 33 + 192) * 10000 := Nat.mul_le_mul (by omega) hb2
      omega
    have hmax : ¬ ((((len + ys.length : Nat)) : Int) > IntKind.i64.max) := by
      simp only [IntKind.max, IntKind.signed, IntKind.bits]; simp; omega
    obtain ⟨nc, hnc1, hncm, hnc2⟩ : ∃ nc, len + ys.length ≤ nc ∧ nc ≤ 9223372036854775807 ∧ ∀ w' : World, w' = w → (choose (.appendCap (len + ys.length) cap e)).run P w' = .ok nc { w with drawn := w.drawn + 1 } :=
      ⟨len + ys.length + (w.tape w.drawn (.appendCap (len + ys.length) cap e)) % (2 ^ 63 - (len + ys.length)), by omega, by
        have := Nat.mod_lt (w.tape w.drawn (.appendCap (len + ys.length) cap e)) (show 0 < 2 ^ 63 - (len + ys.length) by omega)
        omega, fun w' hw => by subst hw; rw [run_choose]; rfl⟩
    refine ⟨nc, hnc1, hncm, Builtin.zeroCells z.cells (nc - (len + ys.length)), ?_, ?_⟩
    · rw [zeros_len, hzs]
    · have h1 := hold { w with drawn := w.drawn + 1 } rfl
      have h2 := hf { w with drawn := w.drawn + 1 } rfl
      cases d <;> first | exact absurd rfl (hd _) | simp only [Builtin.append_, List.getElem?_toArray, List.getElem?_cons_zero, List.getElem?_cons_succ, Sem.run_bind, hu, hux, hsize, hl, Result.andThen_ok, Sem.run_pure, Bool.false_eq_true, Bool.not_false, if_false, if_true, hfit, hmax, hinfo, hbig, false_and, hnc2 w rfl, run_askRoom, h1, h2, hzero, newRow, run_newObj]

theorem Rel.kill {s : St} {a : Act} (hr : Rel B w F μ s a) (id : Nat) : Rel B w F μ (s.setO id .gone) a :=
  ⟨hr.heap.kill id, hr.tm, hr.n, hr.df, hr.ext.kill id⟩

theorem push_old {w' : World} {o : Obj} (hh : w'.heap = w.heap.push o) {b : Nat} (hb : b < w.heap.size) : w'.heap[b]? = w.heap[b]? := by
  rw [hh, Array.getElem?_push, if_neg (by omega)]

theorem push_new {w' : World} {o : Obj} (hh : w'.heap = w.heap.push o) : w'.heap[w.heap.size]? = some o := by
  rw [hh, Array.getElem?_push, if_pos rfl]

theorem Owns.lt {nx : Nat} {hp : List (Nat × AO)} (h : Rl w F μ hp nx) {id b : Nat} (ho : Owns μ hp id b) : b < w.heap.size := by
  obtain ⟨m, p, hp1, hb⟩ := ho
  have := h.obj id
  cases hl : lookO hp id <;> rw [hl] at m this <;> (try (cases m; done))
  case box cs =>
    obtain ⟨q, hq, b', c, e, lo, hi, k1, k2, _⟩ := this
    rw [hp1] at hq; cases hq
    rw [hb] at k1; cases k1
    exact (Array.getElem?_eq_some_iff.1 k2).1
  case row t xs =>
    obtain ⟨q, hq, _, hr⟩ := this
    rw [hp1] at hq; cases hq
    rcases hr with ⟨k1, _⟩ | ⟨b', c, e, lo, hi, k1, _, _, _, k5, _⟩
    · rw [hb] at k1; cases k1
    · rw [hb] at k1; cases k1
      exact (Array.getElem?_eq_some_iff.1 k5).1

theorem Owns.nx {nx : Nat} {hp : List (Nat × AO)} (h : Rl w F μ hp nx) {id b : Nat} (ho : Owns μ hp id b) : id < nx := by
  rcases Nat.lt_or_ge id nx with h1 | h1
  · exact h1
  · have := h.fresh id h1
    obtain ⟨m, _⟩ := ho
    rw [this] at m; cases m

/-- A block of the call's own, just made. -/
theorem Rel.new {s : St} {a : Act} (hr : Rel B w F μ s a) {w' : World} {o : Obj} (hh : w'.heap = w.heap.push o) (h1 : w'.os = w.os) (h2 : w'.tape = w.tape) (h3 : w'.output = w.output)
    {p : Pl} (hp : p.blk = some w.heap.size) {x : AO} (hobj : ObjR w' F (upd μ s.nx p) s.nx x) : Rel B w' F (upd μ s.nx p) (s.new x) a ∧ Stays F w w' ∧ ∀ id q, μ id = some q → upd μ s.nx p id = some q := by
  have hst : Stays F w w' := fun b hb => push_old hh (hr.heap.fsz b hb)
  have hun : μ s.nx = none ∨ μ s.nx = some p := .inl (hr.heap.unset _ (Nat.le_refl _))
  have hsz : w.heap.size ≤ w'.heap.size := by rw [hh]; simp
  have A := hr.heap.put (id0 := s.nx) (o := x) (p0 := p) (nx' := s.nx + 1) hst hsz hun (fun id b _ ho => push_old hh (Owns.lt hr.heap ho)) hobj
    (fun _ b hb => by
      rw [hp] at hb; cases hb
      exact ⟨fun hf => absurd (hr.heap.fsz _ hf) (by omega), fun id _ ho => absurd (Owns.lt hr.heap ho) (by omega)⟩) (by omega) (by omega)
  have C := hr.ext.put (id0 := s.nx) (.inl (hr.heap.unset _ (Nat.le_refl _))) (o := x) (p0 := p) (w' := w') hsz (fun b hb _ => push_old hh (Nat.lt_of_lt_of_le hb hr.ext.size))
    (fun _ b hb => by rw [hp] at hb; cases hb; exact .inr hr.ext.size) h1 h2 h3
  exact ⟨hr.turn hst (upd_mono hun) A C, hst, upd_mono hun⟩

theorem Rel.newRow {s : St} {a : Act} (hr : Rel B w F μ s a) {w' : World} {c : Array Value} {e lo hi : Nat} (hh : w'.heap = w.heap.push (.cells c e (lo, hi))) (h1 : w'.os = w.os) (h2 : w'.tape = w.tape) (h3 : w'.output = w.output)
    (hfz : ∀ o, o < c.size → ¬ (lo ≤ o ∧ o < hi)) {t : Ty} {zs : List t.D} {vs : List Value} (hflat : FlatR w F t zs vs) (hc : ∀ (j : Nat) (u : Value), vs[j]? = some u → c[j]? = some u) {cap : Nat} (hcap : zs.length ≤ cap) (hcm : cap ≤ 9223372036854775807) (hsz : cap * t.sz ≤ c.size) :
    ∃ μ', Rel B w' F μ' (s.new (.row t zs)) a ∧ AR w' F μ' (.own s.nx) (.slice (some ⟨w.heap.size, 0, none⟩) zs.length cap) := by
  let p : Pl := ⟨some w.heap.size, 0, some ⟨w.heap.size, 0, none⟩, zs.length, cap, t.sz, hcm⟩
  have hst : Stays F w w' := fun b hb => push_old hh (hr.heap.fsz b hb)
  refine ⟨upd μ s.nx p, (hr.new hh h1 h2 h3 (p := p) rfl ?_).1, p, upd_same, rfl⟩
  refine ⟨p, upd_same, rfl, .inr ⟨w.heap.size, c, e, lo, hi, rfl, rfl, rfl, hcap, push_new hh, hfz, by simpa [p] using hsz, fun i x hi => ?_⟩⟩
  obtain ⟨ys, k1, k2⟩ := hflat.2 i x hi
  refine ⟨ys, Rp_mono (fun _ h => h) hst k1, Rp_len k1, fun j u hj => ?_⟩
  have := hc _ _ (k2 j u hj)
  simpa [p] using this

theorem Rel.nilRow {s : St} {a : Act} (hr : Rel B w F μ s a) (t : Ty) : ∃ μ', Rel B w F μ' (s.new (.row t [])) a ∧ AR w F μ' (.own s.nx) (.slice none 0 0) ∧ (∀ id q, μ id = some q → μ' id = some q) := by
  let p : Pl := ⟨none, 0, none, 0, 0, t.sz, Nat.zero_le _⟩
  have hun : μ s.nx = none ∨ μ s.nx = some p := .inl (hr.heap.unset _ (Nat.le_refl _))
  have A := hr.heap.put (id0 := s.nx) (o := .row t []) (p0 := p) (nx' := s.nx + 1) (Stays.refl F w) (Nat.le_refl _) hun (fun _ _ _ _ => rfl)
    ⟨p, upd_same, rfl, .inl ⟨rfl, rfl, rfl, rfl, rfl⟩⟩ (fun _ b hb => by cases hb) (by omega) (by omega)
  have C := hr.ext.put (id0 := s.nx) (.inl (hr.heap.unset _ (Nat.le_refl _))) (o := .row t []) (p0 := p) (w' := w) (Nat.le_refl _) (fun _ _ _ => rfl) (fun _ b hb => by cases hb) rfl rfl rfl
  exact ⟨upd μ s.nx p, hr.turn (Stays.refl F w) (upd_mono hun) A C, ⟨p, upd_same, rfl⟩, upd_mono hun⟩

theorem append_ok {s : St} {a : Act} (hr : Rel B w F μ s a) {sT xT e : Nat} {d : TypeDesc} (hs : P.underlying sT = some (.slice e)) (hx' : P.underlying xT = some d) (hd : ∀ k, d ≠ .int k) {ti te : TI} (hte : TyOk P e te)
    {x y : AV} {vx vy : Value} {K : AV → St → Option ρ} (hx : AR w F μ x vx) (hy : AR w F μ y vy) (h : appendStep ti te s x y K = some fin) (ty : TypeId) :
    ∃ v w' F' μ' s' av, (Builtin.append_ #[sT, xT] ty #[vx, vy]).run P w = .ok v w' ∧ Rel B w' F' μ' s' a ∧ AR w' F' μ' av v ∧ K av s' = some fin := by
  unfold appendStep at h
  split at h
  · cases h
  · rename_i t hty
    have hty' : Nat.ble te.bytes 10000 = true ∧ Nat.ble 1 te.bytes = true ∧ te.ty = some t := by
      cases hb : (Nat.ble te.bytes 10000 && Nat.ble 1 te.bytes)
      · rw [hb] at hty; cases hty
      · rw [hb] at hty
        simp only [Bool.and_eq_true] at hb
        exact ⟨hb.1, hb.2, hty⟩
    obtain ⟨hb2, hb1, hty⟩ := hty'
    have hb2 := Nat.le_of_ble_eq_true hb2
    have hb1 := Nat.le_of_ble_eq_true hb1
    obtain ⟨htsz, ht1⟩ := hte.ty t hty
    obtain ⟨i, hi, hisz, hib, z, hz, hzs, _⟩ := hte.info ht1
    split at h
    · cases h
    · rename_i ys hys
      obtain ⟨hl, us, hfl, hf⟩ := seq_ok (P := P) hr.heap hy hys
      have run := fun base len cap hlim => append_run (P := P) (w := w) hs hx' hd hi (by rw [hisz, htsz]) (by rw [hib]; exact hb1) (by rw [hib]; exact hb2) hz (by rw [hzs, htsz]) hl hf hfl.one base len cap hlim ty
      have fresh : ∀ {s1 : St} {xs : List t.D} {old : List Value} {w' : World} {nc : Nat} {rest : Array Value}, Rel B w F μ s1 a → FlatR w F t xs old → xs.length + ys.length ≤ nc → nc ≤ 9223372036854775807 → rest.size = (nc - (xs.length + ys.length)) * t.sz →
          w' = { w with drawn := w.drawn + 1, heap := w.heap.push (.cells (old.toArray ++ us.toArray ++ rest) e) } → ∃ μ', Rel B w' F μ' (s1.new (.row t (xs ++ ys))) a ∧ AR w' F μ' (.own s1.nx) (.slice (some ⟨w.heap.size, 0, none⟩) (xs.length + ys.length) nc) := by
        intro s1 xs old w' nc rest hr1 hfx hnc hncm hrest hw'
        have := hr1.newRow (w' := w') (c := old.toArray ++ us.toArray ++ rest) (e := e) (lo := 0) (hi := 0) (by rw [hw']) (by rw [hw']) (by rw [hw']) (by rw [hw']) (fun o _ h => by omega) (hfx.app hfl) (fun j u hj => by
            have hlt : j < (old ++ us).length := (List.getElem?_eq_some_iff.1 hj).1
            rw [← Array.getElem?_toList]
            simp only [Array.toList_append]
            rw [List.getElem?_append_left (by simpa using hlt)]
            exact hj) (cap := nc) (by simpa using hnc) hncm (by
            have h1 := hfx.1
            have h2 := hfl.1
            simp only [Array.size_append, List.size_toArray, h1, h2, hrest]
            rw [← Nat.add_mul, ← Nat.add_mul]
            exact Nat.mul_le_mul_right _ (by omega))
        simpa using this
      split at h
      · obtain ⟨hlim, h'⟩ := bif_none h
        clear h
        have hlim : ys.length ≤ lim := of_decide_eq_true hlim
        have hlim : ys.length ≤ 2 ^ 32 := hlim
        cases hx
        rcases run none 0 0 (by omega) with ⟨hfit, hrun, _⟩ | ⟨hfit, hgrow⟩
        · have hy0 : ys = [] := List.eq_nil_of_length_eq_zero (by omega)
          subst hy0
          have hu0 : us = [] := List.eq_nil_of_length_eq_zero (by rw [hfl.1]; simp)
          have hrun := hrun rfl hu0
          obtain ⟨μ', hr', ha', _⟩ := hr.nilRow t
          exact ⟨_, w, F, μ', _, _, hrun, hr', ha', h'⟩
        · obtain ⟨nc, hnc, hncm, rest, hrest, hrun⟩ := hgrow [] (fun _ _ => rfl)
          obtain ⟨μ', hr', ha'⟩ := fresh hr FlatR.nil (by simpa using hnc) hncm (by simpa using hrest) rfl
          exact ⟨_, _, F, μ', _, _, hrun, hr', by simpa using ha', h'⟩
      · rename_i id
        obtain ⟨p, hp, rfl⟩ := hx
        have hobj := hr.heap.obj id
        split at h
        · rename_i t' xs hl'
          split at h
          · rename_i he
            subst he
            obtain ⟨hlim, h'⟩ := bif_none h
            clear h
            have hlim : xs.length + ys.length ≤ lim := of_decide_eq_true hlim
            have hlim : xs.length + ys.length ≤ 2 ^ 32 := hlim
            rw [hl'] at hobj
            obtain ⟨q, hq, hrow⟩ := hobj
            rw [hp] at hq; cases hq
            obtain ⟨⟨_, old, hof, hor⟩, hplen⟩ := row_flat (P := P) hrow
            rcases run p.adr p.len p.cap (by omega) with ⟨hfit, hrun0, hrun⟩ | ⟨hfit, hgrow⟩
            · obtain ⟨hsz, hrow'⟩ := hrow
              rcases hrow' with ⟨h1, h2, h3, h4, rfl⟩ | ⟨b, c, e', lo, hi', h1, h2, h3, h4, h5, h6, h7, h8⟩
              · have hy0 : ys = [] := List.eq_nil_of_length_eq_zero (by omega)
                subst hy0
                have hu0 : us = [] := List.eq_nil_of_length_eq_zero (by rw [hfl.1]; simp)
                have hrun := hrun0 h2 hu0
                obtain ⟨μ', hr', ha', _⟩ := (hr.kill id).nilRow t'
                refine ⟨_, w, F, μ', _, _, hrun, hr', ?_, h'⟩
                rw [h2, h3, h4]
                exact ha'
              · have hroom : p.sh + p.len * t'.sz + us.length ≤ c.size := by
                  have : (p.len + ys.length) * t'.sz ≤ p.cap * t'.sz := Nat.mul_le_mul_right _ hfit
                  rw [Nat.add_mul] at this
                  rw [hfl.1]; omega
                have hrun := hrun b p.sh h2 c e' lo hi' h5 h6 hroom
                obtain ⟨c', m1, m2⟩ := setCells_heap b us (p.sh + p.len * t'.sz) w c e' (lo, hi') h5 hroom
                have hcsz : c'.size = c.size := by
                  have := congrArg List.length m2
                  simp at this
                  omega
                have hown : Owns μ s.hp id b := ⟨by rw [hl']; rfl, p, hp, h1⟩
                have hst : Stays F w (w.setCells b (p.sh + p.len * t'.sz) us) := fun b' hb' => setCells_other _ _ _ _ _ (fun e => hr.heap.dis id b hown (e ▸ hb'))
                let p' : Pl := ⟨some b, p.sh, some ⟨b, p.sh, none⟩, xs.length + ys.length, p.cap, t'.sz, p.ok⟩
                have hk := hr.kill id
                have hun : μ s.nx = none ∨ μ s.nx = some p' := .inl (hr.heap.unset _ (Nat.le_refl _))
                have hobj' : ObjR (w.setCells b (p.sh + p.len * t'.sz) us) F (upd μ s.nx p') s.nx (.row t' (xs ++ ys)) := by
                  refine ⟨p', upd_same, rfl, .inr ⟨b, c', e', lo, hi', rfl, rfl, by simp [p'], by simp [p']; omega, m1, ?_, by rw [hcsz]; exact h7, fun j x hj => ?_⟩⟩
                  · intro o hoo
                    exact h6 o (by omega)
                  · by_cases hjl : j < xs.length
                    · rw [List.getElem?_append_left hjl] at hj
                      obtain ⟨zs, k1, k2, k3⟩ := h8 j x hj
                      refine ⟨zs, Rp_mono (fun _ h => h) hst k1, k2, fun k u hk => ?_⟩
                      have hkl : k < t'.sz := by rw [← k2]; exact (List.getElem?_eq_some_iff.1 hk).1
                      show c'[p.sh + j * t'.sz + k]? = some u
                      have : (j + 1) * t'.sz ≤ xs.length * t'.sz := Nat.mul_le_mul_right _ (by omega)
                      rw [Nat.add_mul] at this
                      rw [← Array.getElem?_toList, m2, splice_get _ _ _ _ (by have : c.toList.length = c.size := Array.length_toList; omega), if_pos (by rw [hplen]; omega), Array.getElem?_toList]
                      exact k3 k u hk
                    · obtain ⟨zs, k1, k2⟩ := (hof.app hfl).2 j x hj
                      refine ⟨zs, Rp_mono (fun _ h => h) hst k1, Rp_len k1, fun k u hk => ?_⟩
                      have hkl : k < t'.sz := by rw [← Rp_len k1]; exact (List.getElem?_eq_some_iff.1 hk).1
                      have hju := k2 k u hk
                      show c'[p.sh + j * t'.sz + k]? = some u
                      have : xs.length * t'.sz ≤ j * t'.sz := Nat.mul_le_mul_right _ (by omega)
                      have hjt : j < xs.length + ys.length := by
                        have := (List.getElem?_eq_some_iff.1 hj).1
                        simpa using this
                      have h9 : (j + 1) * t'.sz ≤ (xs.length + ys.length) * t'.sz := Nat.mul_le_mul_right _ (by omega)
                      rw [Nat.add_mul, Nat.add_mul] at h9
                      rw [← Array.getElem?_toList, m2, splice_get _ _ _ _ (by have : c.toList.length = c.size := Array.length_toList; omega), if_neg (by rw [hplen]; omega), if_pos (by rw [hplen, hfl.1]; omega)]
                      rw [List.getElem?_append_right (by rw [hof.1]; omega), hof.1] at hju
                      rw [← hju, hplen]
                      congr 1
                      omega
                have A := hk.heap.put (id0 := s.nx) (o := .row t' (xs ++ ys)) (p0 := p') (nx' := s.nx + 1) hst (by rw [setCells_size]; exact Nat.le_refl _) hun
                  (fun id' b' hne ho' => setCells_other _ _ _ _ _ (fun e => by
                    obtain ⟨m, q, hq, hb⟩ := ho'
                    by_cases hi2 : id' = id
                    · subst hi2; simp only [St.setO] at m; rw [lookO_same] at m; cases m
                    · simp only [St.setO] at m; rw [lookO_other _ _ hi2] at m
                      exact hi2 (hr.heap.one _ _ _ ⟨m, q, hq, hb⟩ (e ▸ hown)))) hobj'
                  (fun _ b' hb' => by
                    cases hb'
                    refine ⟨hr.heap.dis id b hown, fun id' hne ho' => ?_⟩
                    obtain ⟨m, q, hq, hb⟩ := ho'
                    by_cases hi2 : id' = id
                    · subst hi2; simp only [St.setO] at m; rw [lookO_same] at m; cases m
                    · simp only [St.setO] at m; rw [lookO_other _ _ hi2] at m
                      exact hi2 (hr.heap.one _ _ _ ⟨m, q, hq, hb⟩ hown)) (by omega) (by simp [St.setO])
                have C := hk.ext.put (id0 := s.nx) (.inl (hk.heap.unset _ (Nat.le_refl _))) (o := .row t' (xs ++ ys)) (p0 := p') (w' := w.setCells b (p.sh + p.len * t'.sz) us) (by rw [setCells_size]; exact Nat.le_refl _)
                  (fun b' g1 g2 => setCells_other _ _ _ _ _ (fun e => by
                    rcases hr.ext.ole id _ hown with g | g
                    · exact g2 (e ▸ g)
                    · omega))
                  (fun _ b' hb' => by cases hb'; exact hr.ext.ole id b hown) (setCells_rest _ _ _ _).1 (setCells_rest _ _ _ _).2.1 (setCells_rest _ _ _ _).2.2
                have hav : AR (w.setCells b (p.sh + p.len * t'.sz) us) F (upd μ s.nx p') (.own s.nx) (.slice p.adr (p.len + ys.length) p.cap) := ⟨p', upd_same, by simp [Pl.val, p', h2, hplen]⟩
                exact ⟨_, _, F, upd μ s.nx p', _, _, hrun, hk.turn hst (upd_mono hun) A C, hav, h'⟩
            · obtain ⟨nc, hnc, hncm, rest, hrest, hrun⟩ := hgrow old (fun w' hw => by have := hor w' hw; rw [← hplen] at this; exact this)
              obtain ⟨μ', hr', ha'⟩ := fresh (hr.kill id) hof (by rw [← hplen]; exact hnc) hncm (by rw [← hplen]; exact hrest) rfl
              exact ⟨_, _, F, μ', _, _, hrun, hr', by rw [hplen]; exact ha', h'⟩
          · cases h
        · cases h
      · cases h
end
end Go.Ai
