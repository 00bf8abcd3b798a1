/- One operation, whichever: all but calls. -/
import Derived.Test.YtjjobkpflphpiaaGreatAiJ
import Derived.Laws.IdiomStrings
set_option linter.unusedVariables false
set_option linter.unusedSimpArgs false
namespace Go.Ai
section
variable {w : World} {F : Nat → Prop} {μ : Nat → Option Pl} {P : Program} {ρ : Type} {fin : ρ} {B : Base}

theorem bytes_conv (xs : List UInt8) {A : Option Addr} {c : Nat} (h : Src P w F .byte xs (.slice A xs.length c)) : (Conv.bytesToString (.slice A xs.length c)).run P w = .ok (.string ⟨xs.toArray⟩) w := by
  obtain ⟨_, us, hf, hr⟩ := h
  have hl : us.length = xs.length := by rw [hf.1]; simp [Ty.sz]; rfl
  have hus : us = xs.map fun b => Value.int .u8 (UInt8.toNat b) := by
    apply List.ext_getElem?
    intro i
    by_cases hi : i < xs.length
    · obtain ⟨ys, h1, h2⟩ := hf.2 i _ (List.getElem?_eq_getElem hi)
      cases h1
      have := h2 0 _ rfl
      simp [Ty.sz] at this
      rw [this]
      simp [hi]
    · rw [List.getElem?_eq_none (by omega), List.getElem?_eq_none (by simp; omega)]
  have hrun := hr w rfl
  cases A with
  | none =>
    have h0 : us = [] := by
      simp [Builtin.firstCells] at hrun
      exact hrun
    rw [h0] at hl
    obtain rfl : xs = [] := List.eq_nil_of_length_eq_zero hl.symm
    rfl
  | some a =>
    have hrun2 : (loadCells a xs.length).run P w = .ok us.toArray w := by
      have e : List.length xs * Ty.byte.sz = xs.length := by simp [Ty.sz]
      have := hrun
      simp only [Builtin.firstCells] at this
      rw [show @List.length (Ty.D .byte) xs * Ty.byte.sz = xs.length from e] at this
      exact this
    have e2 : us = (xs.map fun b => (UInt8.toNat b : Int)).map (Value.int .u8) := by rw [hus]; simp
    rw [e2] at hrun2
    rw [run_bytesToString w a xs.length c _ hrun2, foldl_push_byteCells]
    congr 2
    apply ByteArray.ext
    simp [ByteArray.empty, ByteArray.emptyWithCapacity]
    rfl

theorem freeze_push {o : Nat} {C : Array Value} {e : TypeId} (w : World) : (({ w with heap := w.heap.push (.cells C e) } : World).freeze ⟨w.heap.size, C.size, none⟩ 1).heap = w.heap.push (.cells C e (C.size, C.size + 1)) := by
  simp only [World.freeze]
  rw [if_neg (by omega)]
  apply Array.ext_getElem?
  intro i
  simp only [Array.getElem?_modify, Array.getElem?_push]
  by_cases h1 : w.heap.size = i
  · subst h1
    simp
  · rw [if_neg h1]
    by_cases h2 : i = w.heap.size
    · omega
    · rw [if_neg h2, if_neg h2]

theorem seq_src {nx : Nat} {s : St} (hr : Rl w F μ s.hp nx) {y : AV} {v : Value} (hy : AR w F μ y v) {t : Ty} {ys : List t.D} (h : seqOf s.hp y = .data t ys) : Src P w F t ys v := by
  refine seq_ok hr hy (t := t) (ys := ys) ?_
  rw [h]
  simp [seqAs, cast]

theorem convert_ok {s : St} {a : Act} (hr : Rel B w F μ s a) {ts td te : TI} {st dt : Nat} (hs : TyOk P st ts) (hd : TyOk P dt td) (he1 : ∀ e, ts.kind = .slice e → TyOk P e te) (he2 : (∀ e, ts.kind ≠ .slice e) → ∀ e, td.kind = .slice e → TyOk P e te)
    {x : AV} {v : Value} {K : AV → St → Option ρ} (hx : AR w F μ x v) (h : convStep ts td te s x K = some fin) :
    ∃ v' w' F' μ' s' av, (convert st dt v).run P w = .ok v' w' ∧ Rel B w' F' μ' s' a ∧ AR w' F' μ' av v' ∧ K av s' = some fin := by
  unfold convStep at h
  split at h
  · rename_i k0 k hk1 hk2
    split at h
    · rename_i q n
      obtain ⟨rfl, _⟩ := hx
      have hint : AR w F μ (.int k (k.wrap n)) (.int k (k.wrap n)) := ⟨rfl, okI_wrap _ _⟩
      exact ⟨_, w, F, μ, s, _, by simp [convert, underlying, hs.kint _ hk1, hd.kint _ hk2, Conv.intToInt], hr, hint, h⟩
    · cases h
  · rename_i hk1 hk2
    split at h
    · cases hx
      rename_i b
      have hstr : AR w F μ (.str b) (.string ⟨b.toArray⟩) := rfl
      exact ⟨_, w, F, μ, s, _, by simp [convert, underlying, hs.kstr hk1, hd.kstr hk2], hr, hstr, h⟩
    · cases h
  · rename_i e hk1 hk2
    have he := he1 e hk1
    split at h
    · rename_i hk3
      split at h
      · rename_i hsq
        have := (seq_len hr.heap hx).2 hsq
        subst this
        have hstr : AR w F μ (.str []) (.string ⟨#[]⟩) := rfl
        refine ⟨_, w, F, μ, s, _, ?_, hr, hstr, h⟩
        simp [convert, underlying, hs.kslice _ hk1, hd.kstr hk2, he.kint _ hk3, Conv.bytesToString]
        rfl
      · rename_i xs hsq
        obtain ⟨A, c, rfl⟩ := (seq_len hr.heap hx).1 _ _ hsq
        have hsrc := seq_src (P := P) hr.heap hx hsq
        have hstr : AR w F μ (.str xs) (.string ⟨List.toArray xs⟩) := rfl
        refine ⟨_, w, F, μ, s, _, ?_, hr, hstr, h⟩
        have := bytes_conv xs hsrc
        simp only [convert, Sem.run_bind, underlying, run_program, Result.andThen_ok, hs.kslice _ hk1, hd.kstr hk2, Sem.run_pure, he.kint _ hk3]
        exact this
      · cases h
    · cases h
  · rename_i e hk1 hk2
    have he := he2 (fun e' hh => by rw [hk1] at hh; cases hh) e hk2
    split at h
    · rename_i b hk3
      obtain ⟨hb, h'⟩ := bif_none h
      have hb : b.length ≤ lim := of_decide_eq_true hb
      have hb : b.length ≤ 2 ^ 32 := hb
      cases hx
      have hbs : (ByteArray.mk b.toArray).size = b.length := by simp [ByteArray.size]
      let cap := b.length + (w.tape w.drawn (.appendCap b.length 0 e)) % (2 ^ 63 - b.length)
      let C : Array Value := ((ByteArray.mk b.toArray).data.map fun x => Value.int .u8 (UInt8.toNat x)) ++ Array.replicate (cap - b.length) (.int .u8 0)
      have hCs : C.size = cap := by simp [C, cap]
      let w1 : World := { w with drawn := w.drawn + 1 }
      let w2 : World := { w1 with heap := w1.heap.push (.cells C e) }
      let w3 : World := w2.freeze ⟨w.heap.size, C.size, none⟩ 1
      have hw3 : w3.heap = w.heap.push (.cells C e (C.size, C.size + 1)) := freeze_push (o := 0) w1
      obtain ⟨μ', hr', ha'⟩ := hr.newRow (w' := w3) hw3 (by simp [w3, World.freeze, w2, w1]) (by simp [w3, World.freeze, w2, w1]) (by simp [w3, World.freeze, w2, w1]) (fun o ho hh => by omega) (t := .byte) (zs := b) (vs := b.map fun x => .int .u8 (UInt8.toNat x))
        ⟨by simp [Ty.sz]; rfl, fun i x hi => ⟨[.int .u8 (UInt8.toNat x)], rfl, fun j u hj => by
          cases j with
          | zero => simp at hj; subst hj; simp [Ty.sz]; exact ⟨x, hi, rfl⟩
          | succ j => simp at hj⟩⟩ (fun j u hj => by
          have hjl : j < b.length := by have := (List.getElem?_eq_some_iff.1 hj).1; simpa using this
          simp only [C]
          rw [Array.getElem?_append_left (by simp; exact hjl)]
          simpa using hj) (cap := cap) (Nat.le_add_right _ _) (by
          have hlim : b.length ≤ 2 ^ 32 := hb
          have := Nat.mod_lt (w.tape w.drawn (.appendCap b.length 0 e)) (show 0 < 2 ^ 63 - b.length by omega)
          simp only [cap]
          omega) (by simp [Ty.sz, hCs])
      refine ⟨_, w3, F, μ', _, _, ?_, hr', ha', h'⟩
      have hshape : w2.shape? w.heap.size = some (e, C.size) := by
        simp [World.shape?, w2, w1]
      simp only [convert, Sem.run_bind, underlying, run_program, Result.andThen_ok, hs.kstr hk1, hd.kslice _ hk2, Sem.run_pure, he.kint _ hk3, Conv.stringToBytes, hbs, run_choose]
      simp only [Question.forced, Bool.false_eq_true, if_false, Result.andThen_ok, Question.cut, newRow, run_newObj, markStringish, Sem.run_bind, Sem.run_pure, run_shape]
      have hsh : ({ heap := w.heap.push (Obj.cells (((ByteArray.mk b.toArray).data.map fun b => Value.int .u8 (UInt8.toNat b)) ++ Array.replicate (b.length + (w.tape w.drawn (.appendCap b.length 0 e)) % (2 ^ 63 - b.length) - b.length) (Value.int .u8 0)) e), tape := w.tape, drawn := w.drawn + 1, os := w.os, output := w.output } : World).shape? w.heap.size = some (e, C.size) := hshape
      simp only [hsh, run_freeze, Result.andThen_ok]
      rfl
    · cases h
  · cases h

/-- A block that nobody writes is told apart. -/
theorem Rl.adopt {hp : List (Nat × AO)} {nx b0 : Nat} (h : Rl w F μ hp nx) (hb : b0 < w.heap.size) (hno : ∀ id, ¬ Owns μ hp id b0) : Rl w (fun b => F b ∨ b = b0) μ hp nx where
  obj id := ObjR_mono (fun _ h => .inl h) (Stays.refl _ _) (fun _ _ h => h) (fun _ _ _ _ _ => rfl) (h.obj id)
  one := h.one
  dis id b ho hf := by
    rcases hf with hf | rfl
    · exact h.dis id b ho hf
    · exact hno id ho
  fsz b hf := by
    rcases hf with hf | rfl
    · exact h.fsz b hf
    · exact hb
  fresh := h.fresh
  unset := h.unset

theorem Ext.adopt {hp : List (Nat × AO)} {b0 : Nat} (h : Ext B w F μ hp) (hb : B.O b0 ∨ B.w.heap.size ≤ b0) : Ext B w (fun b => F b ∨ b = b0) μ hp where
  size := h.size
  keep := h.keep
  fge b hf := .inl (h.fge b hf)
  fle b hf := by
    rcases hf with hf | rfl
    · exact h.fle b hf
    · exact .inr hb
  ole := h.ole
  os := h.os
  tape := h.tape
  output := h.output
  root := h.root

theorem mark_ok {s : St} {a : Act} (hr : Rel B w F μ s a) {t e : Nat} (ht : P.underlying t = some (.slice e)) {te : TI} (hte : TyOk P e te) {x : AV} {v : Value} {K : AV → St → Option ρ} (hx : AR w F μ x v) (h : markStep te s x K = some fin) :
    ∃ v' w' F' μ' s' av, (convert t t v).run P w = .ok v' w' ∧ Rel B w' F' μ' s' a ∧ AR w' F' μ' av v' ∧ K av s' = some fin := by
  unfold markStep at h
  split at h
  · rename_i id hk
    split at h
    · rename_i xs hl
      obtain ⟨hb, h⟩ := bif_none h
      have h1 := Nat.le_of_ble_eq_true hb
      have hu := hte.kint _ hk
      obtain ⟨p, hp, rfl⟩ := hx
      have hobj := hr.heap.obj id
      rw [hl] at hobj
      obtain ⟨q, hq, hrow⟩ := hobj
      rw [hp] at hq; cases hq
      obtain ⟨hsz, hrow⟩ := hrow
      rcases hrow with ⟨_, _, _, _, rfl⟩ | ⟨b, c, e', lo, hi', k1, k2, k3, k4, k5, k6, k7, k8⟩
      · simp at h1
      · have hown : Owns μ s.hp id b := ⟨by rw [hl]; rfl, p, hp, k1⟩
        let w' : World := w.freeze ⟨b, c.size, none⟩ 1
        have hshape : (shape b).run P w = .ok (some (e', c.size)) w := by
          show Result.ok (w.shape? b) w = _
          simp [World.shape?, k5]
        have hheap : ∀ b', b' ≠ b → w'.heap[b']? = w.heap[b']? := by
          intro b' hne
          simp only [w', World.freeze]
          rw [if_neg (by omega)]
          simp only [Array.getElem?_modify]
          rw [if_neg (fun e => hne e.symm)]
        have hhb : ∃ fz, w'.heap[b]? = some (.cells c e' fz) := by
          simp only [w', World.freeze]
          rw [if_neg (by omega)]
          simp only [Array.getElem?_modify, k5]
          exact ⟨_, rfl⟩
        have hws : w'.heap.size = w.heap.size := by
          simp only [w', World.freeze]
          rw [if_neg (by omega)]
          simp
        have hrest : w'.os = w.os ∧ w'.tape = w.tape ∧ w'.output = w.output := by
          simp only [w', World.freeze]
          rw [if_neg (by omega)]
          exact ⟨rfl, rfl, rfl⟩
        have hst : Stays F w w' := fun b' hb' => hheap b' (fun e => hr.heap.dis id b hown (e ▸ hb'))
        have hid : id < s.nx := Owns.nx hr.heap hown
        have A := hr.heap.put (id0 := id) (o := .gone) (p0 := p) (w' := w') (nx' := s.nx) hst (by rw [hws]; exact Nat.le_refl _) (.inr hp)
          (fun id' b' hne ho' => hheap b' (fun e => hne (hr.heap.one _ _ _ ho' (e ▸ hown)))) trivial (fun hm => by cases hm) hid (Nat.le_refl _)
        have C := hr.ext.put (id0 := id) (.inr hp) (o := .gone) (p0 := p) (w' := w') (by rw [hws]; exact Nat.le_refl _) (fun b' g1 g2 => hheap b' (fun e => by
          rcases hr.ext.ole id _ hown with g | g
          · exact g2 (e ▸ g)
          · omega)) (fun hm => by cases hm) hrest.1 hrest.2.1 hrest.2.2
        rw [upd_id hp] at A C
        have hno : ∀ id', ¬ Owns μ ((id, AO.gone) :: s.hp) id' b := by
          intro id' ho'
          obtain ⟨m, q, hq, hb⟩ := ho'
          by_cases hi2 : id' = id
          · subst hi2; rw [lookO_same] at m; cases m
          · rw [lookO_other _ _ hi2] at m
            exact hi2 (hr.heap.one _ _ _ ⟨m, q, hq, hb⟩ hown)
        have hblt : b < w'.heap.size := by rw [hws]; exact Owns.lt hr.heap hown
        have A2 := A.adopt hblt hno
        have C2 := C.adopt (hr.ext.ole id b hown)
        obtain ⟨fz, hfz⟩ := hhb
        have hv : (convert t t p.val).run P w = .ok p.val w' := by
          have hpv : p.val = .slice (some ⟨b, p.sh, none⟩) p.len p.cap := by unfold Pl.val; rw [k2]
          rw [hpv]
          simp only [convert, Sem.run_bind, underlying, run_program, Result.andThen_ok, ht, Sem.run_pure, hu, beq_self_eq_true, markStringish, hshape]
          rfl
        have hst2 : Stays F w w' := hst
        refine ⟨p.val, w', fun b' => F b' ∨ b' = b, μ, s.setO id .gone, .sl .byte xs, hv, ⟨A2, fun t' => AR_mono (fun _ h => .inl h) hst (fun _ _ h => h) _ _ (hr.tm t'), hr.n, hr.df, C2⟩, ?_, h⟩
        refine ⟨some ⟨b, p.sh, none⟩, p.cap, by unfold Pl.val; rw [k2, k3], ⟨k4, fun e => by cases e⟩, fun i y hi => ?_⟩
        obtain ⟨ys, m1, m2, m3⟩ := k8 i y hi
        refine ⟨b, p.sh, ys, rfl, .inr rfl, Rp_mono (fun _ h => .inl h) hst m1, m2, fun j u hj => ?_⟩
        rw [cell_of_heap hfz]
        exact m3 j u hj
    · cases h
  · cases h
end
end Go.Ai
