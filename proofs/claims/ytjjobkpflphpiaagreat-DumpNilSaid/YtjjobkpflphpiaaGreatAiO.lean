/- Calls, by summaries. -/
import Derived.Test.YtjjobkpflphpiaaGreatAiN
set_option linter.unusedVariables false
set_option linter.unusedSimpArgs false
namespace Go.Ai

/-- What f's call comes to. -/
def Does (P : Program) (f : Nat) (vs : Array Value) (w : World) (R : Value → World → Prop) : Prop :=
  match (callFunc f vs).run P w with
  | .ok (.value v) w' => R v w'
  | .ok (.enter g us) w' => Calls P g us w' (fun e w'' => match e with
    | .returned v => R v w''
    | _ => False)
  | .ok (.row r us) w' => Rows P r us w' R
  | _ => False

theorem Does.mono {P : Program} {f : Nat} {vs : Array Value} {w : World} {R R' : Value → World → Prop} (h : Does P f vs w R) (hr : ∀ v w', R v w' → R' v w') : Does P f vs w R' := by
  unfold Does at *
  split at h
  · exact hr _ _ h
  · exact Calls.mono h (fun e w'' he => by cases e <;> first | exact hr _ _ he | exact he.elim)
  · exact Rows.mono h hr
  · exact h.elim

/-- The base of a call. -/
def base (w : World) (F : Nat → Prop) (μ : Nat → Option Pl) (hp : List (Nat × AO)) : Base := ⟨w, F, fun b => ∃ id, Owns μ hp id b, hp.length, μ⟩

/-- A summary is right. -/
def SpecOk (P : Program) (f : Nat) (S : Summ) : Prop :=
  ∀ (ρ : Type) (fin : ρ) (args : List AV) (hp : List (Nat × AO)) (K : AV → List (Nat × AO) → Nat → Option ρ), S ρ args hp K = some fin →
    ∀ (w : World) (F : Nat → Prop) (μ : Nat → Option Pl) (vs : List Value), Rl w F μ hp hp.length → ARs w F μ args vs →
      Does P f vs.toArray w fun v w' => ∃ r hp' nx' F' μ', K r hp' nx' = some fin ∧ Rl w' F' μ' hp' nx' ∧ AR w' F' μ' r v ∧ Ext (base w F μ hp) w' F' μ' hp'

structure EnvOk (P : Program) (E : Env) : Prop where
  tab : TabOk P E.T
  sums : ∀ f, SpecOk P f (E.S f)

section
variable {P : Program} {ρ : Type} {fin : ρ} {B : Base}
variable {w : World} {F : Nat → Prop} {μ : Nat → Option Pl} {s : St} {a : Act} {o : Oper} {K : AV → St → Option ρ} {next : Act → World → Prop} {Q : Exit → Act → World → Prop} {E : Env}

theorem gather_src {hp : List (Nat × AO)} : ∀ {f : Nat} {todo ord out : List Nat}, gather hp f todo ord = some out → ∀ id ∈ out, id ∈ ord ∨ id ∈ todo ∨ ∃ j, id ∈ refsO (lookO hp j)
  | f, [], ord, out, h, id, hi => by
    have : out = ord := by
      cases f <;> (simp only [gather] at h; cases h; rfl)
    subst this
    exact .inl hi
  | 0, _ :: _, _, _, h, _, _ => by cases h
  | f + 1, i :: r, ord, out, h, id, hi => by
    simp only [gather] at h
    cases hm : memN i ord <;> rw [hm] at h
    · rcases gather_src (f := f) h id hi with h1 | h1 | h1
      · simp only [List.mem_append, List.mem_singleton] at h1
        rcases h1 with h1 | h1
        · exact .inl h1
        · subst h1; exact .inr (.inl (by simp))
      · simp only [List.mem_append] at h1
        rcases h1 with h1 | h1
        · exact .inr (.inl (by simp [h1]))
        · exact .inr (.inr ⟨i, h1⟩)
      · exact .inr (.inr h1)
    · rcases gather_src (f := f) h id hi with h1 | h1 | h1
      · exact .inl h1
      · exact .inr (.inl (by simp [h1]))
      · exact .inr (.inr h1)

theorem lookO_drops {hp : List (Nat × AO)} : ∀ {ord : List Nat} {id : Nat}, lookO (drops ord hp) id = if id ∈ ord then .gone else lookO hp id
  | [], id => by simp [drops]
  | i :: r, id => by
    simp only [drops]
    by_cases he : id = i
    · subst he; rw [lookO_same]; simp
    · rw [lookO_other _ _ he, lookO_drops]; simp [he]

theorem lookO_back {b : Nat → Nat} (hb : ∀ i j, b i = b j → i = j) {hp0 : List (Nat × AO)} (h0 : ∀ k, lookO hp0 (b k) = .gone) : ∀ {hp' : List (Nat × AO)} {k : Nat}, lookO (backHp b hp' hp0) (b k) = renO b (lookO hp' k)
  | [], k => by simp [backHp, lookO, h0]; rfl
  | (i, o) :: r, k => by
    simp only [backHp]
    by_cases he : k = i
    · subst he; rw [lookO_same, lookO_same]
    · rw [lookO_other _ _ (fun e => he (hb _ _ e)), lookO_other _ _ he, lookO_back hb h0]

theorem lookO_back' {b : Nat → Nat} {hp0 : List (Nat × AO)} {id : Nat} (hid : ∀ k, b k ≠ id) : ∀ {hp' : List (Nat × AO)}, lookO (backHp b hp' hp0) id = lookO hp0 id
  | [] => rfl
  | (i, o) :: r => by
    simp only [backHp]
    rw [lookO_other _ _ (Ne.symm (hid i)), lookO_back' hid]

theorem backId_lt {ord : List Nat} {nx k id : Nat} (h : ord[k]? = some id) : backId ord nx k = id := by simp [backId, h]
theorem backId_ge {ord : List Nat} {nx k : Nat} (h : ord.length ≤ k) : backId ord nx k = nx + (k - ord.length) := by simp [backId, List.getElem?_eq_none h]

theorem backId_inj {ord : List Nat} {nx : Nat} (hn : ord.Nodup) (hlt : ∀ id ∈ ord, id < nx) (i j : Nat) (h : backId ord nx i = backId ord nx j) : i = j := by
  rcases Nat.lt_or_ge i ord.length with hi | hi <;> rcases Nat.lt_or_ge j ord.length with hj | hj
  · rw [backId_lt (List.getElem?_eq_getElem hi), backId_lt (List.getElem?_eq_getElem hj)] at h
    rw [← idx_at hn (List.getElem?_eq_getElem hi), ← idx_at hn (List.getElem?_eq_getElem hj), h]
  · rw [backId_lt (List.getElem?_eq_getElem hi), backId_ge hj] at h
    have := hlt _ (List.getElem_mem hi); omega
  · rw [backId_ge hi, backId_lt (List.getElem?_eq_getElem hj)] at h
    have := hlt _ (List.getElem_mem hj); omega
  · rw [backId_ge hi, backId_ge hj] at h; omega

def backμ (μ μ' : Nat → Option Pl) (ord : List Nat) (nx : Nat) : Nat → Option Pl := fun id =>
  if id ∈ ord then μ' (idx id ord 0) else if id < nx then μ id else μ' (ord.length + (id - nx))

theorem backμ_b {μ' : Nat → Option Pl} {ord : List Nat} {nx : Nat} (hn : ord.Nodup) (hlt : ∀ id ∈ ord, id < nx) (k : Nat) : backμ μ μ' ord nx (backId ord nx k) = μ' k := by
  rcases Nat.lt_or_ge k ord.length with hk | hk
  · have h1 := List.getElem?_eq_getElem hk
    rw [backId_lt h1, backμ, if_pos (List.getElem_mem hk), idx_at hn h1]
  · rw [backId_ge hk, backμ, if_neg, if_neg (by omega)]
    · congr 1; omega
    · intro h; have := hlt _ h; omega

theorem back_case {ord : List Nat} {nx : Nat} (id : Nat) : (∃ k, backId ord nx k = id) ∨ (id ∉ ord ∧ id < nx) := by
  by_cases h : id ∈ ord
  · exact .inl ⟨_, backId_lt (idx_of h)⟩
  · rcases Nat.lt_or_ge id nx with h1 | h1
    · exact .inr ⟨h, h1⟩
    · exact .inl ⟨ord.length + (id - nx), by rw [backId_ge (by omega)]; omega⟩

theorem Owns_heap {hp : List (Nat × AO)} {nx id b : Nat} (h : Rl w F μ hp nx) (ho : Owns μ hp id b) : b < w.heap.size := by
  obtain ⟨h1, p, h2, h3⟩ := ho
  have := h.obj id
  revert this h1
  cases lookO hp id <;> intro h1 this
  case box cs =>
    obtain ⟨q, hq, b', c, e, lo, hi, k1, k2, _⟩ := this
    rw [h2] at hq; cases hq; rw [h3] at k1; cases k1
    exact (Array.getElem?_eq_some_iff.1 k2).1
  case row t xs =>
    obtain ⟨q, hq, _, k⟩ := this
    rw [h2] at hq; cases hq
    rcases k with ⟨k1, _⟩ | ⟨b', c, e, lo, hi, k1, _, _, _, k2, _⟩
    · rw [h3] at k1; cases k1
    · rw [h3] at k1; cases k1
      exact (Array.getElem?_eq_some_iff.1 k2).1
  all_goals cases h1

theorem call_back (hr : Rel B w F μ s a) {ord : List Nat} (hn : ord.Nodup) (hlt : ∀ id ∈ ord, id < s.nx)
    {w' : World} {F' : Nat → Prop} {μ' : Nat → Option Pl} {hp' : List (Nat × AO)} {nx' : Nat} (h1 : Rl w' F' μ' hp' nx')
    (h2 : Ext (base w F (subμ μ ord) (subHp s.hp (fun id => idx id ord 0) ord 0)) w' F' μ' hp') :
    Rel B w' F' (backμ μ μ' ord s.nx) ⟨s.n, s.tm, backHp (backId ord s.nx) hp' (drops ord s.hp), s.nx + nx'⟩ a := by
  have hb := backId_inj (nx := s.nx) hn hlt
  have h0 : ∀ k, lookO (drops ord s.hp) (backId ord s.nx k) = .gone := by
    intro k
    rw [lookO_drops]
    rcases Nat.lt_or_ge k ord.length with hk | hk
    · rw [backId_lt (List.getElem?_eq_getElem hk), if_pos (List.getElem_mem hk)]
    · rw [backId_ge hk]
      split
      · rfl
      · exact hr.heap.fresh _ (by omega)
  have hmono : ∀ id p, μ id = some p → backμ μ μ' ord s.nx id = some p := by
    intro id p hp
    unfold backμ
    split
    · rename_i hm
      refine h2.root _ ?_ p (sub_m hm hp)
      show _ < (subHp _ _ _ _).length
      rw [subHp_len]; exact idx_lt hm
    · rw [if_pos]; exact hp
      rcases Nat.lt_or_ge id s.nx with h | h
      · exact h
      · have := hr.heap.unset id h; rw [hp] at this; cases this
  have hO : ∀ b, (∃ k, Owns (subμ μ ord) (subHp s.hp (fun id => idx id ord 0) ord 0) k b) → ∃ id ∈ ord, Owns μ s.hp id b := by
    rintro b ⟨k, hk⟩
    obtain ⟨id, a1, a2⟩ := sub_owns hk
    exact ⟨id, List.mem_of_getElem? a1, a2⟩
  have hst : Stays F w w' := by
    intro b hF
    refine h2.keep b (hr.heap.fsz b hF) (fun h => ?_)
    obtain ⟨id, _, h⟩ := hO b h
    exact hr.heap.dis id b h hF
  have hout : ∀ id, id ∉ ord → id < s.nx → lookO (backHp (backId ord s.nx) hp' (drops ord s.hp)) id = lookO s.hp id ∧ backμ μ μ' ord s.nx id = μ id := by
    intro id hno hid
    constructor
    · rw [lookO_back', lookO_drops, if_neg hno]
      intro k hk
      rcases Nat.lt_or_ge k ord.length with hkl | hkl
      · rw [backId_lt (List.getElem?_eq_getElem hkl)] at hk
        exact hno (hk ▸ List.getElem_mem hkl)
      · rw [backId_ge hkl] at hk; omega
    · rw [backμ, if_neg hno, if_pos hid]
  have howns : ∀ id b, Owns (backμ μ μ' ord s.nx) (backHp (backId ord s.nx) hp' (drops ord s.hp)) id b → (∃ k, backId ord s.nx k = id ∧ Owns μ' hp' k b) ∨ (id ∉ ord ∧ id < s.nx ∧ Owns μ s.hp id b) := by
    rintro id b ⟨m, p, hp, hpb⟩
    rcases back_case (ord := ord) (nx := s.nx) id with ⟨k, rfl⟩ | ⟨hno, hid⟩
    · rw [lookO_back hb h0, renO_mine] at m
      rw [backμ_b hn hlt] at hp
      exact .inl ⟨k, rfl, m, p, hp, hpb⟩
    · obtain ⟨e1, e2⟩ := hout id hno hid
      rw [e1] at m; rw [e2] at hp
      exact .inr ⟨hno, hid, m, p, hp, hpb⟩
  have hole : ∀ k b, Owns μ' hp' k b → (∃ id ∈ ord, Owns μ s.hp id b) ∨ w.heap.size ≤ b := by
    intro k b h
    rcases h2.ole k b h with h | h
    · exact .inl (hO b h)
    · exact .inr h
  refine ⟨⟨?_, ?_, ?_, h1.fsz, ?_, ?_⟩, ?_, hr.n, hr.df, ?_⟩
  · intro id
    rcases back_case (ord := ord) (nx := s.nx) id with ⟨k, rfl⟩ | ⟨hno, hid⟩
    · show ObjR _ _ _ _ (lookO (backHp _ _ _) _)
      rw [lookO_back hb h0]
      exact ObjR_ren (fun i _ p hp => by rw [backμ_b hn hlt]; exact hp) (fun p hp => by rw [backμ_b hn hlt]; exact hp) (h1.obj k)
    · show ObjR _ _ _ _ (lookO (backHp _ _ _) _)
      rw [(hout id hno hid).1]
      refine ObjR_mono h2.fge hst hmono (fun p b hp hb' m => ?_) (hr.heap.obj id)
      have ho : Owns μ s.hp id b := ⟨m, p, hp, hb'⟩
      refine h2.keep b (Owns_heap hr.heap ho) (fun h => ?_)
      obtain ⟨i, hi, h⟩ := hO b h
      exact hno (hr.heap.one _ _ _ ho h ▸ hi)
  · intro id id' b a1 a2
    rcases howns id b a1 with ⟨k, rfl, c1⟩ | ⟨n1, n2, c1⟩ <;> rcases howns id' b a2 with ⟨k', rfl, c2⟩ | ⟨n3, n4, c2⟩
    · rw [h1.one _ _ _ c1 c2]
    · rcases hole k b c1 with ⟨i, hi, h⟩ | h
      · exact absurd (hr.heap.one _ _ _ c2 h ▸ hi) n3
      · have := Owns_heap hr.heap c2; omega
    · rcases hole k' b c2 with ⟨i, hi, h⟩ | h
      · exact absurd (hr.heap.one _ _ _ c1 h ▸ hi) n1
      · have := Owns_heap hr.heap c1; omega
    · exact hr.heap.one _ _ _ c1 c2
  · intro id b a1
    rcases howns id b a1 with ⟨k, rfl, c1⟩ | ⟨n1, n2, c1⟩
    · exact h1.dis k b c1
    · intro hF
      rcases h2.fle b hF with h | h | h
      · exact hr.heap.dis _ _ c1 h
      · obtain ⟨i, hi, h⟩ := hO b h
        exact n1 (hr.heap.one _ _ _ c1 h ▸ hi)
      · have := Owns_heap hr.heap c1
        have : w.heap.size ≤ b := h
        omega
  · intro id hid
    have hid' : s.nx + nx' ≤ id := hid
    have he : backId ord s.nx (ord.length + (id - s.nx)) = id := by rw [backId_ge (by omega)]; omega
    rw [← he]
    show lookO (backHp _ _ _) _ = _
    rw [lookO_back hb h0, h1.fresh _ (by omega)]
    rfl
  · intro id hid
    have hid' : s.nx + nx' ≤ id := hid
    have he : backId ord s.nx (ord.length + (id - s.nx)) = id := by rw [backId_ge (by omega)]; omega
    rw [← he, backμ_b hn hlt]
    exact h1.unset _ (by omega)
  · exact fun t => AR_mono h2.fge hst hmono _ _ (hr.tm t)
  · exact {
      size := Nat.le_trans hr.ext.size h2.size
      keep := fun b c1 c2 => by
        rw [← hr.ext.keep b c1 c2]
        refine h2.keep b (Nat.lt_of_lt_of_le c1 hr.ext.size) (fun h => ?_)
        obtain ⟨i, hi, h⟩ := hO b h
        rcases hr.ext.ole i b h with h | h
        · exact c2 h
        · omega
      fge := fun b h => h2.fge b (hr.ext.fge b h)
      fle := fun b h => by
        rcases h2.fle b h with h | h | h
        · exact hr.ext.fle b h
        · obtain ⟨i, hi, h⟩ := hO b h
          exact .inr (hr.ext.ole i b h)
        · exact .inr (.inr (Nat.le_trans hr.ext.size h))
      ole := fun id b h => by
        rcases howns id b h with ⟨k, rfl, c1⟩ | ⟨n1, n2, c1⟩
        · rcases hole k b c1 with ⟨i, hi, h⟩ | h
          · exact hr.ext.ole i b h
          · exact .inr (Nat.le_trans hr.ext.size h)
        · exact hr.ext.ole id b c1
      os := h2.os.trans hr.ext.os
      tape := h2.tape.trans hr.ext.tape
      output := h2.output.trans hr.ext.output
      root := fun k hk p hp => hmono k p (hr.ext.root k hk p hp) }

theorem gather_lt (hr : Rl w F μ s.hp s.nx) {args : List AV} {vs : List Value} (ha : ARs w F μ args vs) {f : Nat} {ord : List Nat} (h : gather s.hp f (refsL args) [] = some ord) : ∀ id ∈ ord, id < s.nx := by
  intro id hi
  have : ∃ p, μ id = some p := by
    rcases gather_src h id hi with h | h | ⟨j, h⟩
    · cases h
    · exact ARs_refs (μ' := μ) (fun _ _ h => .inl h) _ _ ha id h
    · exact ObjR_refs (hr.obj j) id h
  obtain ⟨p, hp⟩ := this
  rcases Nat.lt_or_ge id s.nx with h | h
  · exact h
  · have := hr.unset id h; rw [hp] at this; cases this

theorem call_ok (hr : Rel B w F μ s a) {f : Nat} (hS : SpecOk P f (E.S f)) {args : List AV} {vs : List Value} (ha : ARs w F μ args vs) (h : callStep E f args s K = some fin) :
    Does P f vs.toArray w fun v w' => ∃ F' μ' s' av, Rel B w' F' μ' s' a ∧ AR w' F' μ' av v ∧ K av s' = some fin := by
  unfold callStep at h
  split at h
  · cases h
  · rename_i ord hg
    obtain ⟨hn, _, hin, hc⟩ := gather_ok hg List.nodup_nil (fun id h => by cases h)
    have hlt := gather_lt hr.heap ha hg
    have hsub := sub_rl hr.heap hn hc
    refine Does.mono (hS _ _ _ _ _ h w F (subμ μ ord) vs (by rw [subHp_len]; exact hsub) (ARs_ren' _ _ (fun id hi p hp => sub_m (hin id hi) hp) ha)) ?_
    rintro v w' ⟨r, hp', nx', F', μ', k1, k2, k3, k4⟩
    exact ⟨F', _, _, _, call_back hr hn hlt k2 k4, AR_ren (fun id p hp => by rw [backμ_b hn hlt]; exact hp) _ _ k3, k1⟩

theorem s_call (hr : Rel B w F μ s a) (hE : EnvOk P E) (hT : Then B o a K fin next) {c : Call} (ho : o.op = .call c) {f : Operand} (hc : c.callee = .value f) (h : step E o s K = some fin) : o.wp P a w next Q := by
  simp only [step, ho, hc] at h
  split at h
  · rename_i g first cap hf
    have hfe := ev_ok hr.tm f
    rw [hf] at hfe
    obtain ⟨as, cs, hv, h1, h2⟩ := hfe
    have hargs : ARs w F μ (first ++ c.args.toList.map (ev s.tm) ++ cap) (as ++ c.args.toList.map a.eval ++ cs) := ARs_app (ARs_app h1 (evs_ok hr.tm _)) h2
    have hd := call_ok hr (hE.sums g) hargs h
    have he : execOp a.eval o = callFunc g (as ++ c.args.toList.map a.eval ++ cs).toArray := by
      have : (List.toArray as ++ c.args.map a.eval ++ List.toArray cs) = (as ++ c.args.toList.map a.eval ++ cs).toArray := by
        apply Array.ext'; simp
      rw [← this]
      simp only [execOp, ho, resolve, hc, hv, Deferred.ofValue]
      rfl
    unfold Oper.wp
    rw [he]
    unfold Does at hd
    split at hd
    · rename_i hrun
      obtain ⟨F', μ', s', av, k1, k2, k3⟩ := hd
      rw [hrun]
      exact hT _ _ _ _ _ _ k1 k2 k3
    · rename_i hrun
      rw [hrun]
      refine Calls.mono hd (fun e w'' hh => ?_)
      cases e with
      | returned v =>
        obtain ⟨F', μ', s', av, k1, k2, k3⟩ := hh
        exact hT _ _ _ _ _ _ k1 k2 k3
      | panicked c => exact hh.elim
      | outgrown => exact hh.elim
    · rename_i hrun
      rw [hrun]
      refine Rows.mono hd (fun v w'' hh => ?_)
      obtain ⟨F', μ', s', av, k1, k2, k3⟩ := hh
      exact hT _ _ _ _ _ _ k1 k2 k3
    · exact hd.elim
  · cases h

theorem s_conv (hr : Rel B w F μ s a) (hE : TabOk P E.T) {t t' : Nat} {x : Operand} (ho : o.op = .convert t t' x) (hp : pureOp E o.op = true) (h : step E o s K = some fin) : StillF P B w F μ a o K fin := by
  simp only [step, ho] at h
  have hx := ev_ok hr.tm x
  simp only [pureOp, ho] at hp
  split at hp
  · rename_i k k' hk1 hk2
    rw [hk1, hk2] at h
    simp only [convStep, hk1, hk2] at h
    split at h
    · rename_i q n he
      rw [he] at hx
      obtain ⟨hv, _⟩ := hx
      have hint : AR w F μ (.int k' (k'.wrap n)) (.int k' (k'.wrap n)) := ⟨rfl, okI_wrap _ _⟩
      exact st_value (fun w2 => by simp only [execOp, ho, hv]; simp [convert, underlying, (hE t).kint _ hk1, (hE t').kint _ hk2, Conv.intToInt]) (hS _ _ _ _ _ _ hr hint h)
    · cases h
  · rename_i hk1 hk2
    rw [hk1, hk2] at h
    simp only [convStep, hk1, hk2] at h
    split at h
    · rename_i b he
      rw [he] at hx
      have hv : a.eval x = .string ⟨b.toArray⟩ := hx
      have hstr : AR w F μ (.str b) (.string ⟨b.toArray⟩) := rfl
      exact st_value (fun w2 => by simp only [execOp, ho, hv]; simp [convert, underlying, (hE t).kstr hk1, (hE t').kstr hk2]) (hS _ _ _ _ _ _ hr hstr h)
    · cases h
  · cases hp

theorem pure_ok (hr : Rel B w F μ s a) (hE : TabOk P E.T) (hp : pureOp E o.op = true) (hsl : isSlice o.op = false) (h : step E o s K = some fin) : StillF P B w F μ a o K fin := by
  cases ho : o.op with
  | move x => exact s_move hr (.inl ho) h
  | assign x => exact s_move hr (.inr ho) h
  | pick c x y => exact s_pick hr ho h
  | nilCheck x => exact s_nilCheck hr ho h
  | binOp op t x y t' => exact s_binOp hr hE ho h
  | unOp op t x => exact s_unOp hr ho h
  | convert t t' x => exact s_conv hr hE ho hp h
  | makeFunc f first cap =>
    cases f with
    | func f => exact s_makeFunc hr ho h
    | _ => simp [step, ho] at h
  | extract x i => exact s_extract hr ho h
  | fieldAddr t x f => exact s_fieldAddr hr hE ho h
  | field t x f => exact s_field hr hE ho h
  | indexAddr t x i => exact s_indexAddr hr hE ho h
  | index t x i => exact s_index hr hE ho h
  | sliceToArrayPointer t x => exact s_arrAt hr hE ho h
  | slice t x lo hi mx => simp [isSlice, ho] at hsl
  | call c =>
    cases hc : c.callee with
    | value f => simp [pureOp, ho, hc] at hp
    | invoke x m => simp [step, ho, hc] at h
    | builtin b =>
      cases b with
      | len => exact s_len hr hE ho hc h
      | min => exact s_min hr ho hc h
      | max => exact s_max hr ho hc h
      | _ => simp [pureOp, ho, hc] at hp
  | _ => simp [pureOp, ho] at hp

theorem pure_ok' (hr : Rel B w F μ s a) (hE : TabOk P E.T) (hp : pureOp E o.op = true) (h : step E o s K = some fin) : ∃ F', StillF P B w F' μ a o K fin ∧ (growsOp s o.op = false → F' = F) := by
  cases hs : isSlice o.op
  · exact ⟨F, pure_ok hr hE hp hs h, fun _ => rfl⟩
  · cases ho : o.op with
    | slice t x lo hi mx =>
      cases mx with
      | none =>
        obtain ⟨F', h1, h2⟩ := s_slice hr hE ho h
        exact ⟨F', h1, fun hg => h2 (by simpa [growsOp] using hg)⟩
      | some m => simp [step, ho] at h
    | _ => simp [isSlice, ho] at hs

/-- Every operation. -/
theorem step_ok (hr : Rel B w F μ s a) (hE : EnvOk P E) (hT : Then B o a K fin next) (h : step E o s K = some fin) : o.wp P a w next Q := by
  cases ho : o.op with
  | move x => exact (s_move hr (.inl ho) h).wp hT
  | assign x => exact (s_move hr (.inr ho) h).wp hT
  | pick c x y => exact (s_pick hr ho h).wp hT
  | alloc e => exact s_alloc hr hE.tab hT ho h
  | box e x => exact s_box hr hT ho h
  | load t x => exact s_load hr hE.tab hT ho h
  | store t x y => exact s_store hr hE.tab hT ho h
  | nilCheck x => exact (s_nilCheck hr ho h).wp hT
  | binOp op t x y t' => exact (s_binOp hr hE.tab ho h).wp hT
  | unOp op t x => exact (s_unOp hr ho h).wp hT
  | convert t t' x => exact s_convert hr hE.tab hT ho h
  | makeFunc f first cap =>
    cases f with
    | func f => exact (s_makeFunc hr ho h).wp hT
    | _ => simp [step, ho] at h
  | extract x i => exact (s_extract hr ho h).wp hT
  | fieldAddr t x f => exact (s_fieldAddr hr hE.tab ho h).wp hT
  | field t x f => exact (s_field hr hE.tab ho h).wp hT
  | indexAddr t x i => exact (s_indexAddr hr hE.tab ho h).wp hT
  | index t x i => exact (s_index hr hE.tab ho h).wp hT
  | sliceToArrayPointer t x => exact (s_arrAt hr hE.tab ho h).wp hT
  | slice t x lo hi mx =>
    cases mx with
    | none => exact (s_slice hr hE.tab ho h).elim fun _ hh => hh.1.wp hT
    | some m => simp [step, ho] at h
  | build t ps => exact s_build hr hE.tab hT ho h
  | buildSlice t len ps => exact s_buildSlice hr hE.tab hT ho h
  | makeSlice t l c => exact s_makeSlice hr hE.tab hT ho h
  | call c =>
    cases hc : c.callee with
    | value f => exact s_call hr hE hT ho hc h
    | invoke x m => simp [step, ho, hc] at h
    | builtin b =>
      cases b with
      | len => exact (s_len hr hE.tab ho hc h).wp hT
      | append => exact s_append hr hE.tab hT ho hc h
      | min => exact (s_min hr ho hc h).wp hT
      | max => exact (s_max hr ho hc h).wp hT
      | _ => simp [step, ho, hc] at h
  | _ => simp [step, ho] at h
end
end Go.Ai
