/- Every operation. -/
import Derived.Test.YtjjobkpflphpiaaGreatAiK
set_option linter.unusedVariables false
set_option linter.unusedSimpArgs false
namespace Go.Ai
section
variable {P : Program} {ρ : Type} {fin : ρ} {B : Base}

/-- What is to be shown behind an operation. -/
def Then (B : Base) (o : Oper) (a : Act) (K : AV → St → Option ρ) (fin : ρ) (next : Act → World → Prop) : Prop :=
  ∀ v av s' w' F' μ', Rel B w' F' μ' s' a → AR w' F' μ' av v → K av s' = some fin → next (a.put o.dst v) w'

variable {w : World} {F : Nat → Prop} {μ : Nat → Option Pl} {s : St} {a : Act} {o : Oper} {K : AV → St → Option ρ} {next : Act → World → Prop} {Q : Exit → Act → World → Prop}

theorem wp_value {v : Value} {w' : World} (h : (execOp a.eval o).run P w = .ok (.value v) w') (hn : next (a.put o.dst v) w') : o.wp P a w next Q := by
  unfold Oper.wp; rw [h]; exact hn
theorem wp_skip' {w' : World} (h : (execOp a.eval o).run P w = .ok .skip w') (hn : next (a.put o.dst undef) w') : o.wp P a w next Q := by
  unfold Oper.wp; rw [h]; exact hn

theorem wp_gotAt {m : Sem Value} (hr : Rel B w F μ s a) (hT : Then B o a K fin next) (hg : GotAt P w F μ (fun v => K v s) fin m) (he : execOp a.eval o = (do pure (.value (← m)))) : o.wp P a w next Q := by
  obtain ⟨v, av, h1, h2, h3⟩ := hg
  exact wp_value (w' := w) (by rw [he]; simp [h1]) (hT v av s w F μ hr h2 h3)

theorem wp_turn {m : Sem Value} (hT : Then B o a K fin next) (hg : ∃ v w' F' μ' s' av, m.run P w = .ok v w' ∧ Rel B w' F' μ' s' a ∧ AR w' F' μ' av v ∧ K av s' = some fin) (he : execOp a.eval o = (do pure (.value (← m)))) : o.wp P a w next Q := by
  obtain ⟨v, w', F', μ', s', av, h1, h2, h3, h4⟩ := hg
  exact wp_value (w' := w') (by rw [he]; simp [h1]) (hT v av s' w' F' μ' h2 h3 h4)

/-- What a step that leaves the world as it is comes to: the same value in every world. -/
def StillF (P : Program) (B : Base) (w : World) (F : Nat → Prop) (μ : Nat → Option Pl) (a : Act) (o : Oper) (K : AV → St → Option ρ) (fin : ρ) : Prop :=
  ∃ v s' av, (∀ w2, (execOp a.eval o).run P w2 = .ok (.value v) w2) ∧ Rel B w F μ s' a ∧ AR w F μ av v ∧ K av s' = some fin

def Fine (B : Base) (w : World) (F : Nat → Prop) (μ : Nat → Option Pl) (a : Act) (K : AV → St → Option ρ) (fin : ρ) (v : Value) : Prop :=
  ∃ s' av, Rel B w F μ s' a ∧ AR w F μ av v ∧ K av s' = some fin

theorem hS (v : Value) (av : AV) (s' : St) (w : World) (F : Nat → Prop) (μ : Nat → Option Pl) (h1 : Rel B w F μ s' a) (h2 : AR w F μ av v) (h3 : K av s' = some fin) : Fine B w F μ a K fin v := ⟨s', av, h1, h2, h3⟩

theorem st_value {v : Value} (h : ∀ w2, (execOp a.eval o).run P w2 = .ok (.value v) w2) (hn : Fine B w F μ a K fin v) : StillF P B w F μ a o K fin := by
  obtain ⟨s', av, h1, h2, h3⟩ := hn
  exact ⟨v, s', av, h, h1, h2, h3⟩

theorem st_got {m : Sem Value} (hr : Rel B w F μ s a) (hg : Got P w F μ (fun v => K v s) fin m) (he : execOp a.eval o = (do pure (.value (← m)))) : StillF P B w F μ a o K fin := by
  obtain ⟨v, av, h1, h2, h3⟩ := hg
  exact ⟨v, s, av, fun w2 => by rw [he]; simp [h1], hr, h2, h3⟩

theorem StillF.wp (h : StillF P B w F μ a o K fin) (hT : Then B o a K fin next) : o.wp P a w next Q := by
  obtain ⟨v, s', av, h1, h2, h3, h4⟩ := h
  exact wp_value (h1 w) (hT v av s' w F μ h2 h3 h4)

theorem opt_ok (hr : Rel B w F μ s a) (lo : Option Operand) : (∀ x, lo.map (ev s.tm) = some x → ∃ v, lo.map a.eval = some v ∧ AR w F μ x v) ∧ (lo.map (ev s.tm) = none → lo.map a.eval = none) := by
  cases lo with
  | none => exact ⟨(fun x h => by cases h), (fun _ => rfl)⟩
  | some y => exact ⟨(fun x h => by simp at h; subst h; exact ⟨_, rfl, ev_ok hr.tm y⟩), (fun h => by cases h)⟩

theorem field_of {T : Nat → TI} (hT : TabOk P T) {t f off size ft : Nat} (h : (structFields (T t).kind)[f]? = some (off, ft)) (hs : (T ft).size = size) (h1 : 1 ≤ size) :
    ∃ fields fd i, P.underlying t = some (.struct fields) ∧ fields[f]? = some fd ∧ fd.offset = off ∧ fd.type = ft ∧ P.info? ft = some i ∧ i.size = size := by
  unfold structFields at h
  split at h
  · rename_i fs hk
    obtain ⟨fields, hu, hfs⟩ := (hT t).kstruct fs hk
    rw [← hfs] at h
    simp at h
    obtain ⟨fd, hfd, rfl, rfl⟩ := h
    obtain ⟨i, hi, his, _⟩ := (hT fd.type).info (by omega)
    exact ⟨fields, fd, i, hu, hfd, rfl, rfl, hi, by omega⟩
  · cases h

variable {E : Env}

theorem s_move (hr : Rel B w F μ s a) {x : Operand} (ho : o.op = .move x ∨ o.op = .assign x) (h : step E o s K = some fin) : StillF P B w F μ a o K fin := by
  rcases ho with ho | ho <;> simp only [step, ho] at h <;> exact st_value (fun w => by simp only [execOp, ho]; rfl) (hS _ _ _ _ _ _ hr (ev_ok hr.tm x) h)

theorem s_pick (hr : Rel B w F μ s a) {c x y : Operand} (ho : o.op = .pick c x y) (h : step E o s K = some fin) : StillF P B w F μ a o K fin := by
  simp only [step, ho] at h
  have hc := ev_ok hr.tm c
  have hx := ev_ok hr.tm x
  have hy := ev_ok hr.tm y
  split at h
  · rename_i c' hc'
    rw [hc'] at hc
    have hcv : a.eval c = .bool c' := hc
    have hrun : ∀ w2, (execOp a.eval o).run P w2 = .ok (.value (if c' = true then a.eval x else a.eval y)) w2 := by
      simp only [execOp, ho, hcv]
      simp [asBool]
    split at h
    · rename_i p q hp hq
      rw [hp] at hx; rw [hq] at hy
      refine st_value hrun (hS _ _ _ _ _ _ hr ?_ h)
      have h1 : a.eval x = .bool p := hx
      have h2 : a.eval y = .bool q := hy
      rw [h1, h2]
      cases c' <;> rfl
    · cases c'
      · exact st_value hrun (hS _ _ _ _ _ _ hr (by simpa using hy) h)
      · exact st_value hrun (hS _ _ _ _ _ _ hr (by simpa using hx) h)
  · cases h

theorem s_alloc (hr : Rel B w F μ s a) (hE : TabOk P E.T) (hT : Then B o a K fin next) {e : Nat} (ho : o.op = .alloc e) (h : step E o s K = some fin) : o.wp P a w next Q := by
  simp only [step, ho] at h
  obtain ⟨hb, h⟩ := bif_none h
  obtain ⟨v, w', μ', h1, h2, h3⟩ := alloc_ok hr (hE e) (Nat.le_of_ble_eq_true hb)
  exact wp_turn hT ⟨v, w', F, μ', _, _, h1, h2, h3, h⟩ (by simp only [execOp, ho])

theorem s_box (hr : Rel B w F μ s a) (hT : Then B o a K fin next) {e : Nat} {x : Operand} (ho : o.op = .box e x) (h : step E o s K = some fin) : o.wp P a w next Q := by
  simp only [step, ho] at h
  split at h
  · rename_i cs hcs
    obtain ⟨v, w', μ', h1, h2, h3⟩ := box_ok (P := P) hr e (ev_ok hr.tm x) hcs
    exact wp_turn hT ⟨v, w', F, μ', _, _, h1, h2, h3, h⟩ (by simp only [execOp, ho])
  · cases h

theorem s_load (hr : Rel B w F μ s a) (hE : TabOk P E.T) (hT : Then B o a K fin next) {t : Nat} {x : Operand} (ho : o.op = .load t x) (h : step E o s K = some fin) : o.wp P a w next Q := by
  simp only [step, ho] at h
  exact wp_gotAt hr hT (load_ok hr.heap (hE t) (ev_ok hr.tm x) h) (by simp only [execOp, ho])

theorem s_store (hr : Rel B w F μ s a) (hE : TabOk P E.T) (hT : Then B o a K fin next) {t : Nat} {x y : Operand} (ho : o.op = .store t x y) (h : step E o s K = some fin) : o.wp P a w next Q := by
  simp only [step, ho] at h
  obtain ⟨w', F', s', h1, h2, h3⟩ := store_ok hr (hE t) (ev_ok hr.tm x) (ev_ok hr.tm y) h
  exact wp_skip' (w' := w') (by simp only [execOp, ho]; simp [h1]) (hT undef .und s' w' F' μ h2 trivial h3)

theorem s_nilCheck (hr : Rel B w F μ s a) {x : Operand} (ho : o.op = .nilCheck x) (h : step E o s K = some fin) : StillF P B w F μ a o K fin := by
  simp only [step, ho] at h
  have hx := ev_ok hr.tm x
  split at h
  · rename_i he; rw [he] at hx
    have hx' := hx
    obtain ⟨p, b, _, _, hv⟩ := hx'
    exact st_value (fun w => by simp only [execOp, ho, hv]; rfl) (hS _ _ _ _ _ _ hr (by rw [← hv]; exact hx) h)
  · rename_i he; rw [he] at hx
    have hx' := hx
    obtain ⟨p, b, _, _, _, hv⟩ := hx'
    exact st_value (fun w => by simp only [execOp, ho, hv]; rfl) (hS _ _ _ _ _ _ hr (by rw [← hv]; exact hx) h)
  · rename_i he; rw [he] at hx
    have hx' := hx
    obtain ⟨b, off, vs, hv, _⟩ := hx'
    exact st_value (fun w => by simp only [execOp, ho, hv]; rfl) (hS _ _ _ _ _ _ hr (by rw [← hv]; exact hx) h)
  · cases h

theorem s_binOp (hr : Rel B w F μ s a) (hE : TabOk P E.T) {op : BinOp} {t t' : Nat} {x y : Operand} (ho : o.op = .binOp op t x y t') (h : step E o s K = some fin) : StillF P B w F μ a o K fin := by
  simp only [step, ho] at h
  exact st_got hr (bin_ok (hE t) op x y (ev_ok hr.tm x) (ev_ok hr.tm y) h) (by simp only [execOp, ho])

theorem s_unOp (hr : Rel B w F μ s a) {op : UnOp} {t : Nat} {x : Operand} (ho : o.op = .unOp op t x) (h : step E o s K = some fin) : StillF P B w F μ a o K fin := by
  simp only [step, ho] at h
  exact st_got hr (un_ok op (ev_ok hr.tm x) h) (by simp only [execOp, ho])

theorem s_convert (hr : Rel B w F μ s a) (hE : TabOk P E.T) (hT : Then B o a K fin next) {t t' : Nat} {x : Operand} (ho : o.op = .convert t t' x) (h : step E o s K = some fin) : o.wp P a w next Q := by
  simp only [step, ho] at h
  split at h
  · rename_i e e2 hk hk2
    obtain ⟨hb, h'⟩ := bif_none h
    clear h
    obtain rfl := Nat.eq_of_beq_eq_true hb
    exact wp_turn hT (mark_ok hr ((hE t).kslice _ hk) (hE e) (ev_ok hr.tm x) h') (by simp only [execOp, ho])
  · rename_i e hk hnp
    exact wp_turn hT (convert_ok hr (hE t) (hE t') (fun e' he => by rw [hk] at he; cases he; exact hE e) (fun hn => absurd hk (hn e)) (ev_ok hr.tm x) h) (by simp only [execOp, ho])
  · rename_i e hk hn
    exact wp_turn hT (convert_ok hr (hE t) (hE t') (fun e' he => absurd he (hn e')) (fun _ e' he => by rw [hk] at he; cases he; exact hE e) (ev_ok hr.tm x) h) (by simp only [execOp, ho])
  · rename_i hn1 hn2 hnp
    exact wp_turn hT (convert_ok hr (hE t) (hE t') (fun e' he => absurd he (hn1 e')) (fun _ e' he => absurd he (hn2 e')) (ev_ok hr.tm x) h) (by simp only [execOp, ho])

theorem s_makeFunc (hr : Rel B w F μ s a) {f : Nat} {first cap : Array Operand} (ho : o.op = .makeFunc (.func f) first cap) (h : step E o s K = some fin) : StillF P B w F μ a o K fin := by
  simp only [step, ho] at h
  refine st_value (v := .func (.func f) (first.map a.eval) (cap.map a.eval)) (fun w => by simp only [execOp, ho]; rfl) (hS _ _ _ _ _ _ hr ?_ h)
  exact ⟨first.toList.map a.eval, cap.toList.map a.eval, by congr 1 <;> (apply Array.ext'; simp), evs_ok hr.tm _, evs_ok hr.tm _⟩

theorem s_extract (hr : Rel B w F μ s a) {x : Operand} {i : Nat} (ho : o.op = .extract x i) (h : step E o s K = some fin) : StillF P B w F μ a o K fin := by
  simp only [step, ho] at h
  have hx := ev_ok hr.tm x
  split at h
  · rename_i vs he
    rw [he] at hx
    obtain ⟨us, hv, hus⟩ := hx
    split at h
    · rename_i v hi
      obtain ⟨u, hu, hau⟩ := ARs_get hus hi
      exact st_value (v := u) (fun w => by simp only [execOp, ho, hv]; simp [Instr.extract, hu]) (hS _ _ _ _ _ _ hr hau h)
    · cases h
  · cases h

theorem s_fieldAddr (hr : Rel B w F μ s a) (hE : TabOk P E.T) {t f : Nat} {x : Operand} (ho : o.op = .fieldAddr t x f) (h : step E o s K = some fin) : StillF P B w F μ a o K fin := by
  simp only [step, ho] at h
  have hx := ev_ok hr.tm x
  split at h
  · rename_i off size hf
    unfold fieldOff at hf
    split at hf
    · rename_i off' ft hft
      cases hf
      have main : ∀ (b o' : Nat), a.eval x = .pointer (some ⟨b, o', none⟩) → ∀ v, AR w F μ v (.pointer (some ⟨b, o' + off, none⟩)) → (bif Nat.beq (E.T ft).size 0 then none else K v s) = some fin → StillF P B w F μ a o K fin := by
        intro b o' hv v hav h1
        obtain ⟨hb, h2⟩ := bif_none' h1
        have h0 : (E.T ft).size ≠ 0 := fun e => by rw [e] at hb; cases hb
        obtain ⟨fields, fd, i, hu, hfd, rfl, rfl, hi, his⟩ := field_of hE hft rfl (by omega)
        refine st_value (v := .pointer (some ⟨b, o' + fd.offset, none⟩)) ?_ (hS _ _ _ _ _ _ hr hav h2)
        simp only [execOp, ho, hv]
        have : ¬ i.size = 0 := by omega
        simp [Instr.fieldAt, underlying, hu, hfd, Instr.sureAddr, fieldPlace, sizeOf, typeInfo, hi, this, add_eq]
      revert h
      cases hex : ev s.tm x <;> simp only [addOff] <;> intro h <;> (try (cases h; done)) <;> rw [hex] at hx
      case ptr id o' =>
        obtain ⟨p, b, h1, h2, hv⟩ := hx
        exact main b o' hv (.ptr id (o' + off)) ⟨p, b, h1, h2, rfl⟩ h
      case cp cs =>
        obtain ⟨b, o', vs, hv, hb, hvs, h1, hc⟩ := hx
        refine main b o' hv (.cp (cs.drop off)) ⟨b, o' + off, vs.drop off, rfl, hb, ARs_drop off hvs, fun u hu => h1 u (List.mem_of_mem_drop hu), fun j u hj => ?_⟩ h
        rw [List.getElem?_drop] at hj
        rw [Nat.add_assoc]
        exact hc _ u hj
      case ept id i o' =>
        obtain ⟨p, b, h1, h2, h3, hv⟩ := hx
        exact main b _ hv (.ept id i (o' + off)) ⟨p, b, h1, h2, h3, by rw [Nat.add_assoc]⟩ h
    · cases hf
  · cases h

theorem s_field (hr : Rel B w F μ s a) (hE : TabOk P E.T) {t f : Nat} {x : Operand} (ho : o.op = .field t x f) (h : step E o s K = some fin) : StillF P B w F μ a o K fin := by
  simp only [step, ho] at h
  have hx := ev_ok hr.tm x
  split at h
  · rename_i off size off' ft hf hft
    unfold fieldOff at hf
    rw [hft] at hf
    simp at hf
    obtain ⟨rfl, rfl⟩ := hf
    split at h
    · rename_i cs he
      rw [he] at hx
      obtain ⟨vs, hv, hvs, h1⟩ := hx
      obtain ⟨hb, h2⟩ := bif_none h
      simp only [Bool.and_eq_true] at hb
      have hlen := Nat.eq_of_beq_eq_true hb.1
      have h1s := Nat.le_of_ble_eq_true hb.2
      obtain ⟨fields, fd, i, hu, hfd, rfl, rfl, hi, his⟩ := field_of hE hft rfl h1s
      obtain ⟨d, hd, hag⟩ := (hE fd.type).agg h1s
      have hisagg : ∀ w2, (isAgg fd.type).run P w2 = .ok (E.T fd.type).agg w2 := by
        rw [← hag]
        cases d <;> simp [isAgg, underlying, hd]
      have hav := valOf_ok (agg := (E.T fd.type).agg) (ARs_take (E.T fd.type).size (ARs_drop fd.offset hvs)) (fun u hu => h1 u (List.mem_of_mem_drop (List.mem_of_mem_take hu)))
      refine st_value ?_ (hS _ _ _ _ _ _ hr hav h2)
      have hl2 := ARs_len (ARs_take (E.T fd.type).size (ARs_drop fd.offset hvs))
      rw [hlen] at hl2
      cases hga : (E.T fd.type).agg
      · rw [hga] at hisagg
        have h0 : vs[fd.offset]? = some (((vs.drop fd.offset).take (E.T fd.type).size).getD 0 undef) := by
          rw [List.getD_eq_getElem?_getD, List.getElem?_take, if_pos (by omega), List.getElem?_drop, Nat.add_zero]
          have : fd.offset < vs.length := by simp at hl2; omega
          rw [List.getElem?_eq_getElem this]; rfl
        simp only [execOp, ho, hv]
        simp [Instr.field, underlying, hu, hfd, asAgg, part, hisagg, h0]
      · rw [hga] at hisagg
        simp only [execOp, ho, hv]
        simp [Instr.field, underlying, hu, hfd, asAgg, part, hisagg, sizeOf, typeInfo, hi, his, List.extract_eq_take_drop]
    · cases h
  · cases h

theorem s_index (hr : Rel B w F μ s a) (hE : TabOk P E.T) {t : Nat} {x i : Operand} (ho : o.op = .index t x i) (h : step E o s K = some fin) : StillF P B w F μ a o K fin := by
  simp only [step, ho] at h
  have hx := ev_ok hr.tm x
  have hi := ev_ok hr.tm i
  split at h
  · rename_i q n b e1 e2 hk
    rw [e1] at hi; rw [e2] at hx
    obtain ⟨hiv, _⟩ := hi
    have hxv : a.eval x = .string ⟨b.toArray⟩ := hx
    obtain ⟨hb, h2⟩ := bif_none h
    simp only [inb, Bool.and_eq_true, decide_eq_true_eq] at hb
    have hlt : n.toNat < b.length := by omega
    have hget : (ByteArray.mk b.toArray)[n.toNat]? = some (b.getD n.toNat 0) := by
      rw [List.getD_eq_getElem?_getD, List.getElem?_eq_getElem hlt]
      have hs : n.toNat < (ByteArray.mk b.toArray).size := by simp [ByteArray.size]; exact hlt
      rw [getElem?_pos (ByteArray.mk b.toArray) n.toNat hs]
      rfl
    refine st_value (v := .int .u8 (UInt8.toNat (b.getD n.toNat 0))) ?_ (hS _ _ _ _ _ _ hr ?_ h2)
    · simp only [execOp, ho, hxv, hiv]
      simp [Instr.index, asIntOf, underlying, (hE t).kstr hk, hb.1, hget]
    · refine ⟨rfl, fun _ => ?_⟩
      have := UInt8.toNat_lt (b.getD n.toNat 0)
      omega
  · cases h

theorem s_arrAt (hr : Rel B w F μ s a) (hE : TabOk P E.T) {t : Nat} {x : Operand} (ho : o.op = .sliceToArrayPointer t x) (h : step E o s K = some fin) : StillF P B w F μ a o K fin := by
  simp only [step, ho] at h
  have hx := ev_ok hr.tm x
  split at h
  · rename_i n e xs hk hxe
    rw [hxe] at hx
    obtain ⟨hb, h2⟩ := bif_none h
    simp only [Bool.and_eq_true] at hb
    have h1 := Nat.le_of_ble_eq_true hb.1.1
    have hn := Nat.le_of_ble_eq_true hb.1.2
    obtain ⟨A, c, he, hl, hc⟩ := hx
    have hv : a.eval x = .slice A xs.length c := (List.cons.inj he).1
    have hget : ∀ i, i < xs.length → xs[i]? = some (xs.getD i Ty.byte.dflt) := by
      intro i hi
      rw [List.getD_eq_getElem?_getD, List.getElem?_eq_getElem hi]; rfl
    obtain ⟨b, off, ys, hA, hF, _, _, _⟩ := hc 0 _ (hget 0 (by omega))
    have hall : ∀ i, i < n → w.cell? ⟨b, off + i, none⟩ = some (.int .u8 (UInt8.toNat (xs.getD i Ty.byte.dflt))) := by
      intro i hi
      obtain ⟨b', off', ys', hA', _, hrp, _, hcell⟩ := hc i _ (hget i (by omega))
      rw [hA] at hA'
      cases hA'
      have hy : ys' = [.int .u8 (UInt8.toNat (xs.getD i Ty.byte.dflt))] := hrp
      subst hy
      have := hcell 0 _ rfl
      simpa [Ty.sz] using this
    have hrun : ∀ w2, (execOp a.eval o).run P w2 = .ok (.value (.pointer A)) w2 := by
      intro w2
      have hlt : ¬ xs.length < n := by omega
      simp only [execOp, ho, hv]
      simp [Instr.arrayAt, underlying, (hE t).karr _ _ hk, hlt]
    refine st_value hrun (hS _ (.cp ((List.range n).map fun i => AV.int .u8 (UInt8.toNat (xs.getD i Ty.byte.dflt)))) _ _ _ _ hr ⟨b, off, (List.range n).map fun i => Value.int .u8 (UInt8.toNat (xs.getD i Ty.byte.dflt)), by rw [hA], hF, ?_, ?_, ?_⟩ h2)
    · generalize List.range n = l
      induction l with
      | nil => rfl
      | cons i l ih =>
        refine ⟨_, _, rfl, ⟨rfl, fun _ => ?_⟩, ih⟩
        have := UInt8.toNat_lt (xs.getD i Ty.byte.dflt)
        omega
    · intro u hu
      obtain ⟨i, _, rfl⟩ := List.mem_map.1 hu
      rfl
    · intro j u hj
      rw [List.getElem?_map] at hj
      obtain ⟨i, hi, rfl⟩ := Option.map_eq_some_iff.1 hj
      have hjn : j < n := by
        have := (List.getElem?_eq_some_iff.1 hi).1
        simpa using this
      have : i = j := by
        rw [List.getElem?_range hjn] at hi
        exact (Option.some.inj hi).symm
      subst this
      exact hall i hjn
  · cases h

theorem s_indexAddr (hr : Rel B w F μ s a) (hE : TabOk P E.T) {t : Nat} {x i : Operand} (ho : o.op = .indexAddr t x i) (h : step E o s K = some fin) : StillF P B w F μ a o K fin := by
  simp only [step, ho] at h
  have hx := ev_ok hr.tm x
  have hi := ev_ok hr.tm i
  split at h
  · rename_i q n e1
    rw [e1] at hi
    obtain ⟨hiv, _⟩ := hi
    split at h
    · rename_i e hk
      have hs := (hE t).kslice _ hk
      have main : ∀ {ty : Ty} {A : Option Addr} {len c : Nat} {ad : Addr}, (E.T e).ty = some ty → a.eval x = .slice A len c → A = some ad → 0 ≤ n → n < (len : Int) →
          ∀ w2, (execOp a.eval o).run P w2 = .ok (.value (.pointer (some (ad.add (n.toNat * ty.sz))))) w2 := by
        intro ty A len c ad hty hv hA h0 hlt
        obtain ⟨htsz, ht1⟩ := (hE e).ty ty hty
        obtain ⟨j, hj, hjs, _⟩ := (hE e).info ht1
        subst hA
        simp only [execOp, ho, hv, hiv]
        simp [Instr.indexAt, asIntOf, underlying, hs, h0, hlt, sizeOf, typeInfo, hj, hjs, htsz]
      have rows : ∀ {ty : Ty} {xs : List ty.D} {id : Nat} {p : Pl}, (E.T e).ty = some ty → μ id = some p → a.eval x = p.val → RowR w F p ty xs → 0 ≤ n → n < (xs.length : Int) →
          K (.ept id n.toNat 0) s = some fin → StillF P B w F μ a o K fin := by
        intro ty xs id p hty hp hv hrow h0 hlt h2
        obtain ⟨hsz, hrow⟩ := hrow
        rcases hrow with ⟨_, _, _, _, rfl⟩ | ⟨b, c, e', lo, hi', k1, k2, k3, k4, k5, k6, k7, k8⟩
        · simp at hlt; omega
        · have hrun := main hty hv k2 h0 (by rw [k3]; exact hlt)
          refine st_value hrun (hS _ (.ept id n.toNat 0) _ _ _ _ hr ⟨p, b, hp, k1, by omega, ?_⟩ h2)
          rw [add_eq, hsz]
          rfl
      split at h
      · rename_i ty xs e2
        rw [e2] at hx
        split at h
        · rename_i hty
          obtain ⟨hb, h2⟩ := bif_none h
          simp only [inb, Bool.and_eq_true, decide_eq_true_eq] at hb
          obtain ⟨A, c, he, hl, hc⟩ := hx
          have hlt : n.toNat < xs.length := by omega
          obtain ⟨b, off, ys, hA, hF, h3, h4, h5⟩ := hc n.toNat (xs.getD n.toNat ty.dflt) (by
            show xs[n.toNat]? = _
            rw [List.getD_eq_getElem?_getD, List.getElem?_eq_getElem hlt]; rfl)
          have hv : a.eval x = .slice A xs.length c := (List.cons.inj he).1
          have hrun := main hty hv hA hb.1 (by exact hb.2)
          refine st_value hrun (hS _ (.cp (unpack ty (xs.getD n.toNat ty.dflt))) _ _ _ _ hr ⟨b, off + n.toNat * ty.sz, ys, by rw [add_eq], hF, unpack_ok h3, Rp_one h3, h5⟩ h2)
        · cases h
      · rename_i id e2
        rw [e2] at hx
        obtain ⟨p, hp, hv⟩ := hx
        have hobj := hr.heap.obj id
        split at h
        · rename_i ty xs hl
          rw [hl] at hobj
          obtain ⟨q, hq, hrow⟩ := hobj
          rw [hp] at hq; cases hq
          split at h
          · rename_i hty
            obtain ⟨hb, h2⟩ := bif_none h
            simp only [inb, Bool.and_eq_true, decide_eq_true_eq] at hb
            exact rows hty hp hv hrow hb.1 hb.2 h2
          · cases h
        · rename_i ty xs hl
          rw [hl] at hobj
          obtain ⟨q, hq, hrow, _⟩ := hobj
          rw [hp] at hq; cases hq
          split at h
          · rename_i hty
            obtain ⟨hb, h2⟩ := bif_none h
            simp only [inb, Bool.and_eq_true, decide_eq_true_eq] at hb
            exact rows hty hp hv hrow hb.1 hb.2 h2
          · cases h
        · cases h
      · cases h
    · rename_i len e hk
      have hs := (hE t).karr _ _ hk
      split at h
      · rename_i id off e2
        rw [e2] at hx
        obtain ⟨p, b, hp, hblk, hv⟩ := hx
        obtain ⟨hb, h2⟩ := bif_none h
        simp only [inb, Bool.and_eq_true, decide_eq_true_eq] at hb
        obtain ⟨j, hj, hjs, _⟩ := (hE e).info (Nat.le_of_ble_eq_true hb.2)
        refine st_value (v := .pointer (some ⟨b, off + n.toNat * (E.T e).size, none⟩)) ?_ (hS _ (.ptr id (off + n.toNat * (E.T e).size)) _ _ _ _ hr ⟨p, b, hp, hblk, rfl⟩ h2)
        simp only [execOp, ho, hv, hiv]
        simp [Instr.indexAt, asIntOf, underlying, hs, Instr.sureAddr, hb.1.1, hb.1.2, sizeOf, typeInfo, hj, hjs, add_eq]
      · cases h
    · cases h
  · cases h
end
end Go.Ai
