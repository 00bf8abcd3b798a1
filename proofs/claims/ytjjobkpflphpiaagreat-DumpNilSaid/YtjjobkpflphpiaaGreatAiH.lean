/- The other operations. -/
import Derived.Test.YtjjobkpflphpiaaGreatAiG
set_option linter.unusedVariables false
set_option linter.unusedSimpArgs false
namespace Go.Ai
section
variable {w : World} {F : Nat → Prop} {μ : Nat → Option Pl} {P : Program} {ρ : Type} {fin : ρ} {B : Base}

theorem alloc_ok {s : St} {a : Act} (hr : Rel B w F μ s a) {e : Nat} {te : TI} (hte : TyOk P e te) (h1 : 1 ≤ te.size) :
    ∃ v w' μ', (Instr.alloc e true (.tuple #[])).run P w = .ok v w' ∧ Rel B w' F μ' (s.new (.box te.zero)) a ∧ AR w' F μ' (.ptr s.nx 0) v := by
  obtain ⟨i, hi, hisz, hib, z, hz, hzs, hza⟩ := hte.info h1
  obtain ⟨ha, ho⟩ := hza w F μ
  let p : Pl := ⟨some w.heap.size, 0, none, 0, 0, 0, Nat.zero_le _⟩
  let w' : World := { w with heap := w.heap.push (.cells z.cells e) }
  have hobj : ObjR w' F (upd μ s.nx p) s.nx (.box te.zero) :=
    ⟨p, upd_same, w.heap.size, z.cells, e, 0, 0, rfl, push_new (w' := w') rfl, fun o _ h => by omega, (hza w' F (upd μ s.nx p)).1, ho⟩
  obtain ⟨hr', hst, hm⟩ := hr.new (w' := w') rfl rfl rfl rfl (p := p) rfl hobj
  exact ⟨.pointer (some ⟨w.heap.size, 0, none⟩), w', _, by simp [Instr.alloc, zeroValue, typeInfo, hi, hz, newVar, newRow, w'], hr', p, w.heap.size, upd_same, rfl, rfl⟩

theorem box_ok {s : St} {a : Act} (hr : Rel B w F μ s a) (e : Nat) {x : AV} {v : Value} {cs : List AV} (hx : AR w F μ x v) (hc : cellsOf x = some cs) :
    ∃ u w' μ', (Instr.box e v).run P w = .ok u w' ∧ Rel B w' F μ' (s.new (.box cs)) a ∧ AR w' F μ' (.ptr s.nx 0) u := by
  obtain ⟨ha, ho⟩ := cellsOf_ok hx hc
  let p : Pl := ⟨some w.heap.size, 0, none, 0, 0, 0, Nat.zero_le _⟩
  let w' : World := { w with heap := w.heap.push (.cells v.cells e) }
  have hun : μ s.nx = none ∨ μ s.nx = some p := .inl (hr.heap.unset _ (Nat.le_refl _))
  have hobj : ObjR w' F (upd μ s.nx p) s.nx (.box cs) :=
    ⟨p, upd_same, w.heap.size, v.cells, e, 0, 0, rfl, push_new (w' := w') rfl, fun o _ h => by omega, ARs_mono (fun _ h => h) (fun b hb => push_old (w' := w') rfl (hr.heap.fsz b hb)) (upd_mono hun) _ _ ha, ho⟩
  obtain ⟨hr', hst, hm⟩ := hr.new (w' := w') rfl rfl rfl rfl (p := p) rfl hobj
  exact ⟨.pointer (some ⟨w.heap.size, 0, none⟩), w', _, by simp [Instr.box, newVar, newRow, w'], hr', p, w.heap.size, upd_same, rfl, rfl⟩

theorem packAll_ok {t : Ty} : ∀ {avs : List AV} {vs : List Value} {xs : List t.D}, ARs w F μ avs vs → packAll t avs = some xs → xs.length = vs.length ∧ ∀ (i : Nat) (x : t.D), xs[i]? = some x → ∃ v, vs[i]? = some v ∧ Rp w F t x v.cells.toList
  | [], vs, xs, h, hp => by
    cases h
    simp only [packAll] at hp
    cases hp
    exact ⟨rfl, fun i x hi => by simp at hi⟩
  | a :: r, vs, xs, h, hp => by
    obtain ⟨v, vr, rfl, h1, h2⟩ := h
    simp only [packAll] at hp
    split at hp
    · cases hp
    · rename_i cs hcs
      split at hp
      · rename_i x hx
        split at hp
        · rename_i ys hys
          cases hp
          obtain ⟨hl, he⟩ := packAll_ok h2 hys
          refine ⟨by simp [hl], fun i y hi => ?_⟩
          cases i with
          | zero =>
            simp at hi
            subst hi
            exact ⟨v, rfl, pack_all (cellsOf_ok h1 hcs).1 hx⟩
          | succ i =>
            simp at hi
            obtain ⟨u, hu, hru⟩ := he i y hi
            exact ⟨u, by simpa using hu, hru⟩
        · cases hp
      · cases hp


theorem seq_len {nx : Nat} {s : St} (hr : Rl w F μ s.hp nx) {y : AV} {v : Value} (hy : AR w F μ y v) : (∀ t xs, seqOf s.hp y = .data t xs → ∃ A c, v = .slice A (List.length xs) c) ∧ (seqOf s.hp y = .empty → v = .slice none 0 0) := by
  cases y <;> refine ⟨fun t xs h => ?_, fun h => ?_⟩ <;> simp only [seqOf] at h <;> (try (cases h; done))
  case nils.refine_2 => exact hy
  case sl.refine_1 =>
    cases h
    obtain ⟨A, c, he, _⟩ := hy
    cases he
    exact ⟨A, c, rfl⟩
  case sn.refine_1 =>
    cases h
    obtain ⟨⟨A, c, he, _⟩, _⟩ := hy
    cases he
    exact ⟨A, c, rfl⟩
  case own.refine_1 id =>
    obtain ⟨p, h1, rfl⟩ := hy
    have ho := hr.obj id
    split at h
    · rename_i t' ys hl
      cases h
      rw [hl] at ho
      obtain ⟨q, hq, hrow⟩ := ho
      rw [h1] at hq; cases hq
      exact ⟨p.adr, p.cap, by rw [Pl.val, (row_flat (P := default) hrow).2]⟩
    · rename_i t' ys hl
      cases h
      rw [hl] at ho
      obtain ⟨q, hq, hrow, _⟩ := ho
      rw [h1] at hq; cases hq
      exact ⟨p.adr, p.cap, by rw [Pl.val, (row_flat (P := default) hrow).2]⟩
    · cases h
  case own.refine_2 id => split at h <;> cases h

theorem len_ok {nx : Nat} {s : St} (hr : Rl w F μ s.hp nx) {t : Nat} {ti : TI} (ht : TyOk P t ti) {x : AV} {v : Value} {K : AV → Option ρ} (hx : AR w F μ x v) (h : lenStep ti s.hp x K = some fin) (ty : TypeId) :
    Got P w F μ K fin (Builtin.len_ #[t] ty #[v]) := by
  have nb : ∀ n : Int, okI .i64 n := fun n h => by cases h
  unfold lenStep at h
  split at h
  · rename_i n e hk
    exact Got.of h (fun w => by simp [Builtin.len_, underlying, ht.karr _ _ hk, goInt]) ⟨rfl, nb _⟩
  · rename_i e hk
    split at h
    · rename_i he
      have := (seq_len hr hx).2 he
      subst this
      exact Got.of h (fun w => by simp [Builtin.len_, underlying, ht.kslice _ hk, goInt]) ⟨rfl, nb _⟩
    · rename_i t' xs he
      obtain ⟨A, c, rfl⟩ := (seq_len hr hx).1 _ _ he
      exact Got.of h (fun w => by simp [Builtin.len_, underlying, ht.kslice _ hk, goInt]) ⟨rfl, nb _⟩
    · cases h
  · rename_i hk
    split at h
    · cases hx
      rename_i b
      have hb : (ByteArray.mk b.toArray).size = b.length := by simp [ByteArray.size]
      exact Got.of h (fun w => by simp [Builtin.len_, underlying, ht.kstr hk, goInt, hb]) ⟨rfl, nb _⟩
    · cases h
  · cases h


theorem cutLo_ok {lo : Option AV} {vl : Option Value} (hl : ∀ x, lo = some x → ∃ v, vl = some v ∧ AR w F μ x v) (hl' : lo = none → vl = none) {K : Nat → Nat → Option ρ} (k : Nat) (h : cutLo lo K k = some fin) :
    ∃ l, l ≤ k ∧ K l k = some fin ∧ ((vl = none ∧ l = 0) ∨ ∃ v, vl = some v ∧ ∀ w2, (Instr.sliceBound v k .sliceB).run P w2 = .ok l w2) := by
  unfold cutLo at h
  split at h
  · exact ⟨0, by omega, h, .inl ⟨hl' rfl, rfl⟩⟩
  · rename_i q l
    obtain ⟨v, hv, ha⟩ := hl _ rfl
    obtain ⟨rfl, _⟩ := ha
    obtain ⟨hb, h⟩ := bif_none h
    simp only [Bool.and_eq_true, decide_eq_true_eq] at hb
    exact ⟨l.toNat, by omega, h, .inr ⟨_, hv, fun w2 => by simp [Instr.sliceBound, asIntOf, hb.1, hb.2]⟩⟩
  · cases h

/-- Cuts. -/
theorem cut_ok {n cap : Nat} (hcap : n ≤ cap) (isS : Bool) {lo hi : Option AV} {vl vh : Option Value} (hl : ∀ x, lo = some x → ∃ v, vl = some v ∧ AR w F μ x v) (hl' : lo = none → vl = none)
    (hh : ∀ x, hi = some x → ∃ v, vh = some v ∧ AR w F μ x v) (hh' : hi = none → vh = none) {K : Nat → Nat → Option ρ} (h : cutStep n lo hi K = some fin) :
    ∃ l k, l ≤ k ∧ k ≤ n ∧ (∀ w2, (Instr.sliceBounds isS n cap vl vh none).run P w2 = .ok (l, k, cap) w2) ∧ K l k = some fin := by
  unfold cutStep at h
  split at h
  · obtain ⟨l, h1, h2, h3⟩ := cutLo_ok (P := P) hl hl' n h
    refine ⟨l, n, h1, Nat.le_refl _, ?_, h2⟩
    rw [hh' rfl]
    rcases h3 with ⟨rfl, rfl⟩ | ⟨v, rfl, h3⟩
    · simp [Instr.sliceBounds]
    · simp [Instr.sliceBounds, h3]
  · rename_i q k
    obtain ⟨v, hv, ha⟩ := hh _ rfl
    obtain ⟨rfl, _⟩ := ha
    obtain ⟨hb, h⟩ := bif_none h
    simp only [Bool.and_eq_true, decide_eq_true_eq] at hb
    obtain ⟨l, h1, h2, h3⟩ := cutLo_ok (P := P) hl hl' k.toNat h
    refine ⟨l, k.toNat, h1, by omega, ?_, h2⟩
    have hkc : k ≤ (cap : Int) := by omega
    rw [hv]
    have hk2 : ∀ code w2, (Instr.sliceBound (.int q k) cap code).run P w2 = .ok k.toNat w2 := fun code w2 => by simp [Instr.sliceBound, asIntOf, hb.1, hkc]
    rcases h3 with ⟨rfl, rfl⟩ | ⟨v, rfl, h3⟩
    · cases isS <;> simp [Instr.sliceBounds, hk2]
    · cases isS <;> simp [Instr.sliceBounds, hk2, h3]
  · cases h

theorem sub_rp {t : Ty} {xs : List t.D} {A : Option Addr} {len cap : Nat} (hv : Rp w F (.list t) xs [.slice A len cap]) {l k : Nat} (hlk : l ≤ k) (hk : k ≤ xs.length) :
    Rp w F (.list t) ((xs.take k).drop l) [.slice (if cap = l then A else A.map (·.add (l * t.sz))) (k - l) (cap - l)] := by
  obtain ⟨A', c, he, hl, h⟩ := hv
  cases he
  have hlen : ((xs.take k).drop l).length = k - l := by simp; omega
  refine ⟨_, _, by rw [show List.length ((xs.take k).drop l) = k - l from hlen], ⟨by rw [show List.length ((xs.take k).drop l) = k - l from hlen]; have := hl.1; omega, fun e => ?_⟩, fun i x hi => ?_⟩
  · split at e
    · omega
    · cases A with
      | none => have := hl.2 rfl; omega
      | some A => cases e
  have hi' : ((xs.take k).drop l)[i]? = some x := hi
  have hil : i < k - l := by rw [← hlen]; exact (List.getElem?_eq_some_iff.1 hi').1
  rw [List.getElem?_drop, List.getElem?_take, if_pos (by omega)] at hi'
  obtain ⟨b, off, ys, hA, hb, h1, h2, h3⟩ := h (l + i) x hi'
  have hne : ¬ cap = l := by omega
  refine ⟨b, off + l * t.sz, ys, by rw [if_neg hne, hA]; simp [add_eq], hb, h1, h2, fun j u hj => ?_⟩
  have := h3 j u hj
  rw [Nat.add_mul] at this
  rw [← this]
  congr 2
  omega

theorem sliceData_ok {s : St} {a : Act} (hr : Rel B w F μ s a) {sT e : Nat} (hs : P.underlying sT = some (.slice e)) {te : TI} (hte : TyOk P e te) {t : Ty} {xs : List t.D} {v : Value} (hv : Rp w F (.list t) xs [v]) {lo hi : Option AV} {vl vh : Option Value} (hl : ∀ x, lo = some x → ∃ v, vl = some v ∧ AR w F μ x v) (hl' : lo = none → vl = none)
    (hh : ∀ x, hi = some x → ∃ v, vh = some v ∧ AR w F μ x v) (hh' : hi = none → vh = none) {K : AV → St → Option ρ} (h : sliceData te t xs s lo hi K = some fin) :
    ∃ v' av, (∀ w2, (Instr.sliceAt sT v vl vh none).run P w2 = .ok v' w2) ∧ AR w F μ av v' ∧ K av s = some fin := by
  unfold sliceData at h
  split at h
  · rename_i hty
    obtain ⟨htsz, ht1⟩ := hte.ty t hty
    obtain ⟨i, hi, hisz, _⟩ := hte.info ht1
    have hv' := hv
    obtain ⟨A, c, he, hlc, _⟩ := hv'
    cases he
    obtain ⟨l, k, h1, h2, h3, h4⟩ := cut_ok (P := P) (w := w) (cap := c) hlc.1 true hl hl' hh hh' h
    refine ⟨_, .sl t ((xs.take k).drop l), ?_, sub_rp hv h1 h2, h4⟩
    simp [Instr.sliceAt, Instr.slice, underlying, hs, h3, sizeOf, typeInfo, hi, hisz, htsz]
  · cases h

/-- An array is frozen. -/
theorem Rel.fbox {s : St} {a : Act} (hr : Rel B w F μ s a) {id0 : Nat} {cs : List AV} (ho : lookO s.hp id0 = .box cs) {p : Pl} (hp0 : μ id0 = some p) : Rel B w (fun b => F b ∨ p.blk = some b) μ (s.setO id0 (.fbox cs)) a where
  heap := {
    obj := fun id => by
      simp only [St.setO]
      by_cases he : id = id0
      · subst he; rw [lookO_same]
        have := hr.heap.obj id
        rw [ho] at this
        obtain ⟨q, hq, hbx⟩ := this
        rw [hp0] at hq; cases hq
        exact ⟨p, hp0, BoxR_mono (fun _ h => .inl h) (Stays.refl _ _) (fun _ _ h => h) (fun _ _ => rfl) hbx, fun b hb => .inr hb⟩
      · rw [lookO_other _ _ he]
        exact ObjR_mono (fun _ h => .inl h) (Stays.refl _ _) (fun _ _ h => h) (fun _ _ _ _ _ => rfl) (hr.heap.obj id)
    one := fun id id' b h1 h2 => by
      have key : ∀ i, Owns μ ((id0, AO.fbox cs) :: s.hp) i b → Owns μ s.hp i b := by
        rintro i ⟨m, q⟩
        by_cases he : i = id0
        · subst he; rw [lookO_same] at m; cases m
        · rw [lookO_other _ _ he] at m; exact ⟨m, q⟩
      exact hr.heap.one _ _ _ (key _ h1) (key _ h2)
    dis := fun id b h1 => by
      obtain ⟨m, q, hq, hb⟩ := h1
      simp only [St.setO] at m
      by_cases he : id = id0
      · subst he; rw [lookO_same] at m; cases m
      · rw [lookO_other _ _ he] at m
        rintro (hf | hf)
        · exact hr.heap.dis id b ⟨m, q, hq, hb⟩ hf
        · exact he (hr.heap.one id id0 b ⟨m, q, hq, hb⟩ ⟨by rw [ho]; rfl, p, hp0, hf⟩)
    fsz := fun b hb => by
      rcases hb with hb | hb
      · exact hr.heap.fsz b hb
      · exact Owns.lt hr.heap (id := id0) ⟨by rw [ho]; rfl, p, hp0, hb⟩
    fresh := fun id hi => by
      simp only [St.setO]
      rw [lookO_other]
      · exact hr.heap.fresh id hi
      · rintro rfl
        have := hr.heap.fresh _ hi
        rw [ho] at this; cases this
    unset := hr.heap.unset }
  tm t := AR_mono (fun _ h => .inl h) (Stays.refl _ _) (fun _ _ h => h) _ _ (hr.tm t)
  n := hr.n
  df := hr.df
  ext := {
    size := hr.ext.size
    keep := hr.ext.keep
    fge := fun b hb => .inl (hr.ext.fge b hb)
    fle := fun b hb => by
      rcases hb with hb | hb
      · exact hr.ext.fle b hb
      · exact .inr (hr.ext.ole id0 b ⟨by rw [ho]; rfl, p, hp0, hb⟩)
    ole := fun id b h1 => by
      obtain ⟨m, q, hq, hb⟩ := h1
      simp only [St.setO] at m
      by_cases he : id = id0
      · subst he; rw [lookO_same] at m; cases m
      · rw [lookO_other _ _ he] at m; exact hr.ext.ole id b ⟨m, q, hq, hb⟩
    os := hr.ext.os
    tape := hr.ext.tape
    output := hr.ext.output
    root := hr.ext.root }

theorem slice_ok {s : St} {a : Act} (hr : Rel B w F μ s a) {sT : Nat} {ti : TI} (ht : TyOk P sT ti) {te : TI} (hte : ∀ e, (ti.kind = .slice e ∨ ∃ n, ti.kind = .arr n e) → TyOk P e te) {x : AV} {v : Value} (hx : AR w F μ x v) {lo hi : Option AV} {vl vh : Option Value} (hl : ∀ x, lo = some x → ∃ v, vl = some v ∧ AR w F μ x v) (hl' : lo = none → vl = none)
    (hh : ∀ x, hi = some x → ∃ v, vh = some v ∧ AR w F μ x v) (hh' : hi = none → vh = none) {K : AV → St → Option ρ} (h : sliceStep ti te s x lo hi K = some fin) :
    ∃ v' F' s' av, (∀ w2, (Instr.sliceAt sT v vl vh none).run P w2 = .ok v' w2) ∧ Rel B w F' μ s' a ∧ AR w F' μ av v' ∧ K av s' = some fin ∧ (keepsAV x = true → F' = F) := by
  unfold sliceStep at h
  split at h
  · rename_i hk
    split at h
    · rename_i b
      cases hx
      have hb : (ByteArray.mk b.toArray).size = b.length := by simp [ByteArray.size]
      obtain ⟨l, k, h1, h2, h3, h4⟩ := cut_ok (P := P) (w := w) (cap := b.length) (Nat.le_refl _) false hl hl' hh hh' h
      refine ⟨.string ((ByteArray.mk b.toArray).extract l k), F, s, .str ((b.take k).drop l), ?_, hr, ?_, h4, fun _ => rfl⟩
      · simp [Instr.sliceAt, Instr.slice, underlying, ht.kstr hk, hb, h3]
      · show Value.string _ = Value.string _
        congr 1
        apply ByteArray.ext
        simp [ByteArray.data_extract, List.drop_take, List.extract_eq_take_drop]
    · cases h
  · rename_i e hk
    have hs := ht.kslice _ hk
    have hte' := hte e (.inl hk)
    split at h
    · cases hx
      obtain ⟨hz, h'⟩ := bif_none h
      obtain ⟨i, hi, hisz, _⟩ := hte'.info (Nat.le_of_ble_eq_true hz)
      obtain ⟨l, k, h1, h2, h3, h4⟩ := cut_ok (P := P) (w := w) (cap := 0) (Nat.le_refl _) true hl hl' hh hh' h'
      obtain rfl : k = 0 := by omega
      obtain rfl : l = 0 := by omega
      exact ⟨.slice none 0 0, F, s, .nils, by simp [Instr.sliceAt, Instr.slice, underlying, hs, h3, sizeOf, typeInfo, hi], hr, rfl, h4, fun _ => rfl⟩
    · obtain ⟨v', av, h1, h2, h3⟩ := sliceData_ok hr hs hte' hx hl hl' hh hh' h
      exact ⟨v', F, s, av, h1, hr, h2, h3, fun _ => rfl⟩
    · rename_i id
      split at h
      · obtain ⟨hz, h'⟩ := bif_none h
        obtain ⟨i, hi, hisz, _⟩ := hte'.info (Nat.le_of_ble_eq_true hz)
        have hx' := hx
        obtain ⟨p, h1, rfl⟩ := hx'
        refine ⟨p.val, F, s, .own id, ?_, hr, hx, h', fun _ => rfl⟩
        have ha : ∀ A : Option Addr, A.map (fun x => x.add 0) = A := fun A => by cases A <;> simp [Addr.add]
        rw [hl' rfl, hh' rfl]
        simp [Instr.sliceAt, Instr.slice, underlying, hs, Instr.sliceBounds, sizeOf, typeInfo, hi, Pl.val, ha]
      · obtain ⟨F', hr', hF, ha⟩ := freezeV_ok hr hx
        generalize hfz : freezeV s (.own id) = fz at h hr' ha
        obtain ⟨y, s1⟩ := fz
        simp only at h hr' ha
        split at h
        · rename_i t xs s2 heq
          cases heq
          obtain ⟨v', av, h1, h2, h3⟩ := sliceData_ok hr' hs hte' ha (fun x hx => by obtain ⟨v, h1, h2⟩ := hl x hx; exact ⟨v, h1, AR_mono hF (Stays.refl _ _) (fun _ _ h => h) _ _ h2⟩) hl'
            (fun x hx => by obtain ⟨v, h1, h2⟩ := hh x hx; exact ⟨v, h1, AR_mono hF (Stays.refl _ _) (fun _ _ h => h) _ _ h2⟩) hh' h
          exact ⟨v', F', _, av, h1, hr', h2, h3, fun e => by cases e⟩
        · cases h
    · cases h
  · rename_i n e hk
    have hs := ht.karr _ _ hk
    have hte' := hte e (.inr ⟨n, hk⟩)
    split at h
    · rename_i id
      split at h
      · rename_i cs t hcs hty
        split at h
        · rename_i xs hxs
          obtain ⟨hb, h'⟩ := bif_none h
          simp only [Bool.and_eq_true] at hb
          have hn := Nat.eq_of_beq_eq_true hb.1
          have hsz := Nat.eq_of_beq_eq_true hb.2
          obtain ⟨htsz, ht1⟩ := hte'.ty t hty
          obtain ⟨i, hi, hisz, _⟩ := hte'.info ht1
          obtain ⟨p, b, hp, hblk, rfl⟩ := hx
          have hobj := hr.heap.obj id
          rw [hcs] at hobj
          obtain ⟨q, hq, b', c, e', lo', hi', k1, k2, k3, k4, k5⟩ := hobj
          rw [hp] at hq; cases hq
          rw [hblk] at k1; cases k1
          obtain ⟨hxl, hxe⟩ := packAll_ok k4 hxs
          have hcl := ARs_len k4
          refine ⟨.slice (some ⟨b, 0, none⟩) n n, _, _, .sl t xs, ?_, hr.fbox hcs hp, ?_, h', fun e => by cases e⟩
          · have ha : ∀ a : Addr, a.add 0 = a := fun a => by simp [Addr.add]
            rw [hl' rfl, hh' rfl]
            simp [Instr.sliceAt, underlying, hs, Instr.sliceBounds, Instr.sureAddr, sizeOf, typeInfo, hi, ha]
          · have hxn : xs.length = n := by rw [hxl, hcl, hn]
            refine ⟨some ⟨b, 0, none⟩, n, by rw [show List.length xs = n from hxn], ⟨by rw [show List.length xs = n from hxn]; exact Nat.le_refl _, fun e => by cases e⟩, fun j x hj => ?_⟩
            obtain ⟨v, hv, hrv⟩ := hxe j x hj
            refine ⟨b, 0, _, rfl, .inr hblk, Rp_mono (fun _ h => .inl h) (Stays.refl _ _) hrv, Rp_len hrv, fun k u hk => ?_⟩
            have hone := k5 v (List.mem_of_getElem? hv)
            have hvc : v.cells = #[v] := by cases v <;> first | rfl | cases hone
            rw [hvc] at hk
            cases k with
            | zero =>
              simp at hk
              subst hk
              rw [cell_of_heap k2, htsz, hsz]
              simpa using hv
            | succ k => simp at hk
        · cases h
      · cases h
    · cases h
  · cases h
end
end Go.Ai
