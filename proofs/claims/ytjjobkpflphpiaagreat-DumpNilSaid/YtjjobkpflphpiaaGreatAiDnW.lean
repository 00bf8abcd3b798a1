/- The plain law: both read the same of a dump. -/
import Derived.Test.YtjjobkpflphpiaaGreatAiDnU
set_option maxRecDepth 100000
set_option linter.unusedVariables false
set_option linter.unusedSimpArgs false
namespace Go.Ai.Dn

/-! Behind an error nothing is taken. -/
theorem bad_takeE {b : List UInt8} {a e n : Int} (h : e ≠ 0) : takeE b a e n = e := by unfold takeE; rw [if_neg h]
theorem bad_takeV {b : List UInt8} {a e n : Int} (h : e ≠ 0) : takeV b a e n = 0 := by unfold takeV; rw [if_neg (fun k => h k.1)]
theorem bad_takeA {b : List UInt8} {a e n : Int} (h : e ≠ 0) : takeA b a e n = a := by unfold takeA; rw [if_neg (fun k => h k.1)]
theorem bad_textE {b : List UInt8} {a e m : Int} (h : e ≠ 0) : textE b a e m = e := by
  unfold textE; rw [bad_takeE h, if_pos h]
theorem bad_textA {b : List UInt8} {a e m : Int} (h : e ≠ 0) : textA b a e m = a := by
  unfold textA; rw [bad_textE h, if_neg h]
theorem short_takeV {b : List UInt8} {a e n : Int} (h : takeE b a e n ≠ 0) : takeV b a e n = 0 ∧ takeA b a e n = a := by
  by_cases he : e = 0
  · unfold takeE at h
    rw [if_pos he] at h
    by_cases hl : a + n ≤ b.length
    · rw [if_pos hl] at h; exact absurd rfl h
    · unfold takeV takeA
      rw [if_neg (fun k => hl k.2), if_neg (fun k => hl k.2)]
      exact ⟨rfl, rfl⟩
  · exact ⟨bad_takeV he, bad_takeA he⟩
theorem bad_pair {b : List UInt8} {a e : Int} {last : List UInt8} (h : pairE0 b a e last ≠ 0) : pairA b a e last = takeA b a e 1 ∧ pairE b a e last = pairE0 b a e last := by
  unfold pairA pairE pairA1 pairE1
  rw [bad_textE h, bad_textA h, bad_textE h, bad_textA h]
  exact ⟨rfl, rfl⟩
theorem bad_pairs (b : List UInt8) : ∀ (m : Nat) (a e : Int) (last : List UInt8) (acc : Prs), e ≠ 0 → (pairsP b m last a e acc).2.2 = e
  | 0, a, e, last, acc, h => rfl
  | m + 1, a, e, last, acc, h => by
    have h0 : pairE0 b a e last = e := by
      unfold pairE0
      rw [bad_takeV h, if_neg (by omega), bad_takeE h]
    obtain ⟨h1, h2⟩ := bad_pair (b := b) (a := a) (last := last) (by rw [h0]; exact h)
    rw [pairsP, h1, bad_takeA h, if_pos rfl, h2, h0]
theorem pairs_eq (b : List UInt8) : ∀ (m k : Nat) (e : Int) (last : List UInt8) (acc : Prs), k ≤ b.length →
    (pairsP b m last k e acc).2.2 = (pairsR b m last k e acc).2.2 ∧ ((pairsR b m last k e acc).2.2 = 0 → pairsP b m last k e acc = pairsR b m last k e acc)
  | 0, k, e, last, acc, hk => ⟨rfl, fun _ => rfl⟩
  | m + 1, k, e, last, acc, hk => by
    by_cases he : e = 0
    · subst he
      by_cases hE : takeE b k 0 1 = 0
      · by_cases hc : takeV b k 0 1 > last.length
        · have hR : pairsR b (m + 1) last k 0 acc = (acc, takeA b k 0 1, 3) := by
            rw [pairsR, if_neg (by simp), if_neg (by simp [hE]), if_pos hc]
          have h0 : pairE0 b k 0 last = 3 := by unfold pairE0; rw [if_pos hc, if_pos hE]
          obtain ⟨h1, h2⟩ := bad_pair (b := b) (a := k) (last := last) (e := 0) (by rw [h0]; decide)
          obtain ⟨q, hq, hkq, hql, hq0⟩ := pair_at b k 0 last hk
          have hq0 := hq0 hE
          have hP : pairsP b (m + 1) last k 0 acc = pairsP b m (pairK b k 0 last) (pairA b k 0 last) (pairE b k 0 last) (acc ++ [(pairK b k 0 last, pairV b k 0 last)]) := by
            rw [pairsP, hq, if_neg (by omega)]
          rw [hP, hR, h2, h0, bad_pairs b m _ 3 _ _ (by decide)]
          exact ⟨rfl, fun h => by cases h⟩
        · have hR : pairsR b (m + 1) last k 0 acc = pairsR b m (pairK b k 0 last) (pairA b k 0 last) (pairE b k 0 last) (acc ++ [(pairK b k 0 last, pairV b k 0 last)]) := by
            rw [pairsR, if_neg (by simp), if_neg (by simp [hE]), if_neg hc]
          obtain ⟨q, hq, hkq, hql, hq0⟩ := pair_at b k 0 last hk
          have hq0 := hq0 hE
          have hP : pairsP b (m + 1) last k 0 acc = pairsP b m (pairK b k 0 last) (pairA b k 0 last) (pairE b k 0 last) (acc ++ [(pairK b k 0 last, pairV b k 0 last)]) := by
            rw [pairsP, hq, if_neg (by omega)]
          rw [hP, hR, hq]
          exact pairs_eq b m q _ _ _ hql
      · obtain ⟨s1, s2⟩ := short_takeV hE
        have hR : pairsR b (m + 1) last k 0 acc = (acc, takeA b k 0 1, takeE b k 0 1) := by
          rw [pairsR, if_neg (by simp), if_pos hE]
        have h0 : pairE0 b k 0 last = takeE b k 0 1 := by unfold pairE0; rw [s1, if_neg (by omega)]
        obtain ⟨h1, h2⟩ := bad_pair (b := b) (a := k) (last := last) (e := 0) (by rw [h0]; exact hE)
        have hP : pairsP b (m + 1) last k 0 acc = (acc, takeA b k 0 1, takeE b k 0 1) := by
          rw [pairsP, h1, s2, if_pos rfl, h2, h0]
        rw [hP, hR]
        exact ⟨rfl, fun _ => rfl⟩
    · have h0 : pairE0 b k e last = e := by
        unfold pairE0
        rw [bad_takeV he, if_neg (by omega), bad_takeE he]
      obtain ⟨h1, h2⟩ := bad_pair (b := b) (a := k) (last := last) (by rw [h0]; exact he)
      have hP : pairsP b (m + 1) last k e acc = (acc, (k : Int), e) := by
        rw [pairsP, h1, bad_takeA he, if_pos rfl, h2, h0]
      have hR : pairsR b (m + 1) last k e acc = (acc, (k : Int), e) := by rw [pairsR, if_pos he]
      rw [hP, hR]
      exact ⟨rfl, fun _ => rfl⟩

theorem one_eq (b : List UInt8) (k : Nat) (e : Int) (hk : k ≤ b.length) : (oneP b k e).2.2 = (oneR b k e).2.2 ∧ ((oneR b k e).2.2 = 0 → oneP b k e = oneR b k e) := by
  unfold oneP oneR
  obtain ⟨j, hj, _, hjl, _⟩ := text_at b k e 16 hk
  rw [hj]
  obtain ⟨i, hi, _, hil, _⟩ := take_at b j (textE b k e 16) 4 hjl (by omega)
  have hi : takeA b j (textE b k e 16) 4 = i := hi
  rw [hi]
  exact pairs_eq b _ i _ _ _ hil
theorem bad_one (b : List UInt8) (a e : Int) (h : e ≠ 0) : (oneP b a e).2.2 = e := by
  unfold oneP
  rw [bad_textE h, bad_takeV h, bad_takeE h]
  rfl
theorem bad_vols (b : List UInt8) : ∀ (n : Nat) (a e : Int) (out : Vols), e ≠ 0 → (volsP b n a e out).2.2 = e
  | 0, a, e, out, h => rfl
  | n + 1, a, e, out, h => by
    rw [volsP]
    have h1 := bad_one b a e h
    rw [h1]
    exact bad_vols b n _ e _ h
theorem vols_eq (b : List UInt8) (hb : b.length ≤ 65536) : ∀ (n k : Nat) (e : Int) (out : Vols), k ≤ b.length →
    (volsP b n k e out).2.2 = (volsR b n k e out).2.2 ∧ ((volsR b n k e out).2.2 = 0 → volsP b n k e out = volsR b n k e out)
  | 0, k, e, out, hk => ⟨rfl, fun _ => rfl⟩
  | n + 1, k, e, out, hk => by
    by_cases he : e = 0
    · have hR : volsR b (n + 1) k e out = volsR b n (oneR b k e).2.1 (oneR b k e).2.2 (out ++ [(textS b k e 16, (oneR b k e).1)]) := by
        rw [volsR, if_neg (by simp [he])]
      have hP : volsP b (n + 1) k e out = volsP b n (oneP b k e).2.1 (oneP b k e).2.2 (out ++ [(textS b k e 16, (oneP b k e).1)]) := by rw [volsP]
      obtain ⟨h1, h2⟩ := one_eq b k e hk
      obtain ⟨q, hq, hql, _⟩ := oneR_ok b hb k e hk
      rw [hR, hP]
      by_cases h0 : (oneR b k e).2.2 = 0
      · rw [h2 h0, hq]
        exact vols_eq b hb n q _ _ hql
      · have hv : ∀ (n : Nat) (a : Int) (out : Vols), (volsR b n a (oneR b k e).2.2 out).2.2 = (oneR b k e).2.2 := by
          intro n a out
          cases n with
          | zero => rfl
          | succ n => rw [volsR, if_pos h0]
        rw [h1, bad_vols b n _ _ _ h0, hv]
        exact ⟨rfl, fun h => absurd h h0⟩
    · have hR : volsR b (n + 1) k e out = (out, (k : Int), e) := by rw [volsR, if_pos he]
      rw [hR, bad_vols b (n + 1) _ _ _ he]
      exact ⟨rfl, fun h => absurd h he⟩

/-! A reader with something ahead. -/
section
variable {p c : List UInt8} (hp : p.length = 4)
include hp
theorem sh_drop (k : Nat) : (p ++ c).drop (k + 4) = c.drop k := by
  rw [List.drop_append, List.drop_eq_nil_of_le (by omega), List.nil_append]
  congr 1; omega
theorem sh_len : (p ++ c).length = c.length + 4 := by rw [List.length_append]; omega
theorem sh_takeE (k : Nat) (e n : Int) : takeE (p ++ c) ((k + 4 : Nat) : Int) e n = takeE c k e n := by
  unfold takeE
  rw [sh_len hp]
  have : (((k + 4 : Nat) : Int) + n ≤ ((c.length + 4 : Nat) : Int)) ↔ ((k : Int) + n ≤ (c.length : Int)) := by omega
  simp only [this]
theorem sh_takeV (k : Nat) (e n : Int) : takeV (p ++ c) ((k + 4 : Nat) : Int) e n = takeV c k e n := by
  unfold takeV
  rw [sh_len hp, Int.toNat_natCast, sh_drop hp]
  have : (((k + 4 : Nat) : Int) + n ≤ ((c.length + 4 : Nat) : Int)) ↔ ((k : Int) + n ≤ (c.length : Int)) := by omega
  simp only [this, Int.toNat_natCast]
theorem sh_takeA (k : Nat) (e n : Int) : takeA (p ++ c) ((k + 4 : Nat) : Int) e n = takeA c k e n + 4 := by
  unfold takeA
  rw [sh_len hp]
  have : (((k + 4 : Nat) : Int) + n ≤ ((c.length + 4 : Nat) : Int)) ↔ ((k : Int) + n ≤ (c.length : Int)) := by omega
  simp only [this]
  split <;> omega
theorem sh_textE (k : Nat) (e m : Int) : textE (p ++ c) ((k + 4 : Nat) : Int) e m = textE c k e m := by
  unfold textE
  rw [sh_takeE hp, sh_takeV hp, sh_len hp]
  have : (((c.length + 4 : Nat) : Int) - (((k + 4 : Nat) : Int) + 1) < takeV c k e 1) ↔ ((c.length : Int) - ((k : Int) + 1) < takeV c k e 1) := by omega
  simp only [this]
theorem sh_textA (k : Nat) (e m : Int) : textA (p ++ c) ((k + 4 : Nat) : Int) e m = textA c k e m + 4 := by
  unfold textA
  rw [sh_textE hp, sh_takeV hp]
  split <;> omega
theorem sh_textS (k : Nat) (e m : Int) : textS (p ++ c) ((k + 4 : Nat) : Int) e m = textS c k e m := by
  unfold textS
  rw [sh_textE hp, sh_takeV hp]
  have h1 : (((k + 4 : Nat) : Int) + 1).toNat = (k + 1) + 4 := by omega
  have h2 : ((k : Int) + 1).toNat = k + 1 := by omega
  rw [h1, h2, sh_drop hp]
theorem sh_pair (k : Nat) (e : Int) (last : List UInt8) (hk : k ≤ c.length) : pairK (p ++ c) ((k + 4 : Nat) : Int) e last = pairK c k e last ∧ pairV (p ++ c) ((k + 4 : Nat) : Int) e last = pairV c k e last ∧ pairA (p ++ c) ((k + 4 : Nat) : Int) e last = pairA c k e last + 4 ∧ pairE (p ++ c) ((k + 4 : Nat) : Int) e last = pairE c k e last := by
  have hN : pairN (p ++ c) ((k + 4 : Nat) : Int) e last = pairN c k e last := by unfold pairN; rw [sh_takeV hp]
  have h0 : pairE0 (p ++ c) ((k + 4 : Nat) : Int) e last = pairE0 c k e last := by unfold pairE0; rw [sh_takeV hp, sh_takeE hp]
  obtain ⟨j, hj, _, hjl, _⟩ := take_at c k e 1 hk (by omega)
  have hj : takeA c k e 1 = j := hj
  have hj4 : takeA (p ++ c) ((k + 4 : Nat) : Int) e 1 = ((j + 4 : Nat) : Int) := by rw [sh_takeA hp, hj]; omega
  obtain ⟨i, hi, _, hil, _⟩ := text_at c j (pairE0 c k e last) (16 - pairN c k e last) hjl
  have hA1 : pairA1 (p ++ c) ((k + 4 : Nat) : Int) e last = ((i + 4 : Nat) : Int) := by unfold pairA1; rw [hN, h0, hj4, sh_textA hp, hi]; omega
  have hA1' : pairA1 c k e last = i := by unfold pairA1; rw [hj, hi]
  have hE1 : pairE1 (p ++ c) ((k + 4 : Nat) : Int) e last = pairE1 c k e last := by unfold pairE1; rw [hN, h0, hj4, sh_textE hp, hj]
  refine ⟨?_, ?_, ?_, ?_⟩
  · unfold pairK; rw [hN, h0, hj4, sh_textS hp, hj]
  · unfold pairV; rw [hA1, hE1, sh_textS hp, hA1']
  · unfold pairA; rw [hA1, hE1, sh_textA hp, hA1']
  · unfold pairE; rw [hA1, hE1, sh_textE hp, hA1']
theorem sh_pairs : ∀ (m k : Nat) (e : Int) (last : List UInt8) (acc : Prs), k ≤ c.length → pairsR (p ++ c) m last ((k + 4 : Nat) : Int) e acc = ((pairsR c m last k e acc).1, (pairsR c m last k e acc).2.1 + 4, (pairsR c m last k e acc).2.2)
  | 0, k, e, last, acc, hk => by simp [pairsR]
  | m + 1, k, e, last, acc, hk => by
    obtain ⟨h1, h2, h3, h4⟩ := sh_pair hp k e last hk
    rw [pairsR, pairsR, sh_takeE hp, sh_takeV hp, sh_takeA hp, h1, h2, h3, h4]
    split
    · simp
    · split
      · rfl
      · split
        · rfl
        · obtain ⟨q, hq, _, hql, _⟩ := pair_at c k e last hk
          rw [hq, show (q : Int) + 4 = ((q + 4 : Nat) : Int) by omega]
          exact sh_pairs m q _ _ _ hql
theorem sh_one (k : Nat) (e : Int) (hk : k ≤ c.length) : oneR (p ++ c) ((k + 4 : Nat) : Int) e = ((oneR c k e).1, (oneR c k e).2.1 + 4, (oneR c k e).2.2) := by
  unfold oneR
  obtain ⟨j, hj, _, hjl, _⟩ := text_at c k e 16 hk
  have hj4 : textA (p ++ c) ((k + 4 : Nat) : Int) e 16 = ((j + 4 : Nat) : Int) := by rw [sh_textA hp, hj]; omega
  obtain ⟨i, hi, _, hil, _⟩ := take_at c j (textE c k e 16) 4 hjl (by omega)
  have hi : takeA c j (textE c k e 16) 4 = i := hi
  have hi4 : takeA (p ++ c) ((j + 4 : Nat) : Int) (textE c k e 16) 4 = ((i + 4 : Nat) : Int) := by rw [sh_takeA hp, hi]; omega
  rw [hj4, sh_textE hp, sh_takeV hp, sh_takeE hp, hi4, hj, hi]
  exact sh_pairs hp _ i _ _ _ hil
theorem sh_vols (hc : c.length ≤ 65536) : ∀ (n k : Nat) (e : Int) (out : Vols), k ≤ c.length → volsR (p ++ c) n ((k + 4 : Nat) : Int) e out = ((volsR c n k e out).1, (volsR c n k e out).2.1 + 4, (volsR c n k e out).2.2)
  | 0, k, e, out, hk => by simp [volsR]
  | n + 1, k, e, out, hk => by
    rw [volsR, volsR, sh_one hp k e hk, sh_textS hp]
    split
    · simp
    · obtain ⟨q, hq, hql, _⟩ := oneR_ok c hc k e hk
      simp only
      rw [hq, show (q : Int) + 4 = ((q + 4 : Nat) : Int) by omega]
      exact sh_vols hc n q _ _ hql
theorem sh_end (a e : Int) : endE (p ++ c) (a + 4) e = endE c a e := by
  unfold endE
  rw [sh_len hp]
  have : (a + 4 < ((c.length + 4 : Nat) : Int)) ↔ (a < (c.length : Int)) := by omega
  simp only [this]
end

/-- What the program makes of the bytes behind the mark. -/
theorem taken_eq (b c : List UInt8) (hc : c.length ≤ 65536) :
    endR b (mrct ++ c) (volsR (mrct ++ c) (takeV (mrct ++ c) 4 0 1).toNat (takeA (mrct ++ c) 4 0 1) (takeE (mrct ++ c) 4 0 1) []) = endR b c (takenP c) := by
  have hp : mrct.length = 4 := rfl
  have e1 : takeV (mrct ++ c) 4 0 1 = takeV c 0 0 1 := sh_takeV hp 0 0 1
  have e2 : takeA (mrct ++ c) 4 0 1 = takeA c 0 0 1 + 4 := sh_takeA hp 0 0 1
  have e3 : takeE (mrct ++ c) 4 0 1 = takeE c 0 0 1 := sh_takeE hp 0 0 1
  obtain ⟨q, hq, _, hql, _⟩ := take_at c 0 0 1 (by omega) (by omega)
  have hq : takeA c 0 0 1 = q := hq
  rw [e1, e2, e3, hq, show (q : Int) + 4 = ((q + 4 : Nat) : Int) by omega, sh_vols hp hc _ q _ _ hql]
  unfold takenP
  rw [hq]
  obtain ⟨h1, h2⟩ := vols_eq c hc (takeV c 0 0 1).toNat q (takeE c 0 0 1) [] hql
  generalize volsR c (takeV c 0 0 1).toNat q (takeE c 0 0 1) [] = r at *
  unfold endR
  simp only
  rw [sh_end hp]
  by_cases h0 : r.2.2 = 0
  · rw [h2 h0]
  · have hE : endE c r.2.1 r.2.2 = r.2.2 := by unfold endE; rw [if_neg h0]
    have hE2 : ∀ a : Int, endE c a r.2.2 = r.2.2 := fun a => by unfold endE; rw [if_neg h0]
    rw [hE, h1, hE2, if_pos h0, if_pos h0]
end Go.Ai.Dn
