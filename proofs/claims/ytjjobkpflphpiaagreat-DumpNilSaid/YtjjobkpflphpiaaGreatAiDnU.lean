/- The sixth layer: dumps written, and read by the reference. -/
import Derived.Test.YtjjobkpflphpiaaGreatAiDnR
set_option maxRecDepth 100000
set_option linter.unusedVariables false
set_option linter.unusedSimpArgs false
namespace Go.Ai.Dn
noncomputable def ann8 : Nat → Option (List (Nat × Mode)) := lookN [(5, [(16, .keep), (17, .keep), (18, .keep), (4, .keep)])]
noncomputable def pl8 : Nat → Option (List (Nat × Bool) × List Nat) := lookN []
noncomputable def l8_5 {ρ : Type} (fu : Nat) (K : AV → List (Nat × AO) → Nat → Option ρ) (f5 : Nat) (x0 : Int) (x1 : Int) (x2 : List (List UInt8 × List (List UInt8 × List UInt8))) (x3 : List UInt8) : Option ρ :=
  loopAt E5 ann8 pl8 fu 0 Go.Proofs.Tryz.f8 [1, 1, 1, 0, 1, 0] K [] f5 (St.mk (29 : Nat)
  [((4 : Nat), AV.own (0 : Nat)), ((18 : Nat), AV.int IntKind.i64 x0), ((17 : Nat), AV.int IntKind.i64 x1),
    ((16 : Nat), AV.sl (Ty.prod Ty.str (Ty.list (Ty.prod Ty.str Ty.str))) x2)]
  [((0 : Nat), AO.row Ty.byte x3)] (1 : Nat))
theorem e8 {ρ : Type} (fu : Nat) (K : AV → List (Nat × AO) → Nat → Option ρ) (l : List (List UInt8 × List (List UInt8 × List UInt8))) :
    aFun E5 ann8 pl8 fu Go.Proofs.Tryz.f8 [AV.sl (Ty.prod Ty.str (Ty.list (Ty.prod Ty.str Ty.str))) l] [] 0 K =
    bif lg l && gd (fine l) then
  bif !mayB l then K (AV.tup [AV.nils, AV.int IntKind.i64 (1 : Int)]) [] (0 : Nat)
  else
    bif rg (IntKind.wrap IntKind.u8 (↑(List.length l) : Int)) (256 : Nat) then
      bif
          sg (16 : Nat)
            [UInt8.ofNat (109 : Nat), UInt8.ofNat (114 : Nat), UInt8.ofNat (99 : Nat), UInt8.ofNat (116 : Nat)] then
        l8_5 fu K fu (0 : Int) (↑(List.length l) : Int) l
          ([UInt8.ofNat (109 : Nat), UInt8.ofNat (114 : Nat), UInt8.ofNat (99 : Nat), UInt8.ofNat (116 : Nat)] ++
            [UInt8.ofNat (Int.toNat (IntKind.wrap IntKind.u8 (↑(List.length l) : Int)))])
      else none
    else none
else none := by kernel_rfl
theorem s8_5 {ρ : Type} (fu : Nat) (K : AV → List (Nat × AO) → Nat → Option ρ) (f5 : Nat) (x0 : Int) (x1 : Int) (x2 : List (List UInt8 × List (List UInt8 × List UInt8))) (x3 : List UInt8) :
    l8_5 fu K  (f5 + 1) x0 x1 x2 x3 =
    bif decide (x0 < x1) then
  bif inb x0 (List.length x2) then
    bif
        gd (List.length (Prod.fst (List.getD x2 (Int.toNat x0) ([], []))) ≤ (16 : Nat)) &&
          (gd (List.length (Prod.snd (List.getD x2 (Int.toNat x0) ([], []))) ≤ (65536 : Nat)) &&
            gd (small (Prod.snd (List.getD x2 (Int.toNat x0) ([], []))))) then
      bif
          decide
            (List.length x3 +
                List.length
                  (wrOne
                    (Prod.fst (List.getD x2 (Int.toNat x0) ([], [])),
                      Prod.snd (List.getD x2 (Int.toNat x0) ([], [])))) ≤
              lim) then
        l8_5 fu K f5 (IntKind.wrap IntKind.i64 (x0 + (1 : Int))) x1 x2
          (x3 ++
            wrOne (Prod.fst (List.getD x2 (Int.toNat x0) ([], [])), Prod.snd (List.getD x2 (Int.toNat x0) ([], []))))
      else none
    else none
  else none
else
  bif sg (16 : Nat) x3 then
    K (AV.tup [AV.own (0 : Nat), AV.int IntKind.i64 (0 : Int)])
      [((0 : Nat), AO.row Ty.byte (x3 ++ le4 (sumN (0 : Nat) x3)))] (1 : Nat)
  else none := by kernel_rfl
noncomputable def ann7 : Nat → Option (List (Nat × Mode)) := lookN [(12, [(7, .keep), (4, .keep), (0, .keep), (6, .keep), (9, .keep), (8, .keep)])]
noncomputable def pl7 : Nat → Option (List (Nat × Bool) × List Nat) := lookN []
noncomputable def l7_12 {ρ : Type} (fu : Nat) (K : AV → List (Nat × AO) → Nat → Option ρ) (f12 : Nat) (x0 : Int) (x1 : Int) (x2 : List UInt8) (x3 : List (List UInt8 × List (List UInt8 × List UInt8))) (x4 : List (List UInt8 × List (List UInt8 × List UInt8))) (x5 : List UInt8) (x6 : Int) (x7 : Int) : Option ρ :=
  loopAt E5 ann7 pl7 fu 0 Go.Proofs.Tryz.f7 [1, 1, 1, 1, 1, 1, 1, 1, 0, 1, 0] K [] f12 (St.mk (87 : Nat)
  [((8 : Nat), AV.own (0 : Nat)), ((9 : Nat), AV.int IntKind.u64 x0), ((6 : Nat), AV.int IntKind.u64 x1),
    ((0 : Nat), AV.sl Ty.byte x2), ((4 : Nat), AV.own (1 : Nat)), ((7 : Nat), AV.ptr (2 : Nat) (0 : Nat))]
  [((0 : Nat), AO.row (Ty.prod Ty.str (Ty.list (Ty.prod Ty.str Ty.str))) x3),
    ((1 : Nat), AO.row (Ty.prod Ty.str (Ty.list (Ty.prod Ty.str Ty.str))) x4),
    ((2 : Nat), AO.box [AV.sl Ty.byte x5, AV.int IntKind.i64 x6, AV.int IntKind.i64 x7])]
  (3 : Nat))
theorem e7 {ρ : Type} (fu : Nat) (K : AV → List (Nat × AO) → Nat → Option ρ) (b : List UInt8) :
    aFun E5 ann7 pl7 fu Go.Proofs.Tryz.f7 [AV.sl Ty.byte b] [] 0 K =
    bif gd (List.length b ≤ (65536 : Nat)) then
  bif !fitsB b then
    K (AV.tup [AV.own (0 : Nat), AV.int IntKind.i64 (5 : Int)])
      [((0 : Nat), AO.row (Ty.prod Ty.str (Ty.list (Ty.prod Ty.str Ty.str))) [])] (1 : Nat)
  else
    bif
        decide ((0 : Int) ≤ IntKind.wrap IntKind.i64 ((↑(List.length b) : Int) - (4 : Int))) &&
          decide (IntKind.wrap IntKind.i64 ((↑(List.length b) : Int) - (4 : Int)) ≤ (↑(List.length b) : Int)) then
      bif
          decide
            ((↑(List.length
                    (List.take (Int.toNat (IntKind.wrap IntKind.i64 ((↑(List.length b) : Int) - (4 : Int)))) b)) :
                Int) <
              (4 : Int)) then
        K (AV.tup [AV.own (0 : Nat), AV.int IntKind.i64 (7 : Int)])
          [((0 : Nat), AO.row (Ty.prod Ty.str (Ty.list (Ty.prod Ty.str Ty.str))) [])] (1 : Nat)
      else
        bif
            decide
              ((4 : Int) ≤
                (↑(List.length
                      (List.take (Int.toNat (IntKind.wrap IntKind.i64 ((↑(List.length b) : Int) - (4 : Int)))) b)) :
                  Int)) then
          bif
              !List.take (4 : Nat)
                    (List.take (Int.toNat (IntKind.wrap IntKind.i64 ((↑(List.length b) : Int) - (4 : Int)))) b) ==
                  [(109 : UInt8), (114 : UInt8), (99 : UInt8), (116 : UInt8)] then
            K (AV.tup [AV.own (0 : Nat), AV.int IntKind.i64 (7 : Int)])
              [((0 : Nat), AO.row (Ty.prod Ty.str (Ty.list (Ty.prod Ty.str Ty.str))) [])] (1 : Nat)
          else
            bif
                rdOk (List.take (Int.toNat (IntKind.wrap IntKind.i64 ((↑(List.length b) : Int) - (4 : Int)))) b)
                    (4 : Int) &&
                  rg (1 : Int) (9 : Nat) then
              bif
                  decide
                    (takeV (List.take (Int.toNat (IntKind.wrap IntKind.i64 ((↑(List.length b) : Int) - (4 : Int)))) b)
                        (4 : Int) (0 : Int) (1 : Int) >
                      (16 : Int)) then
                K (AV.tup [AV.own (0 : Nat), AV.int IntKind.i64 (13 : Int)])
                  [((0 : Nat), AO.row (Ty.prod Ty.str (Ty.list (Ty.prod Ty.str Ty.str))) [])] (1 : Nat)
              else
                l7_12 fu K fu (0 : Int)
                  (takeV (List.take (Int.toNat (IntKind.wrap IntKind.i64 ((↑(List.length b) : Int) - (4 : Int)))) b)
                    (4 : Int) (0 : Int) (1 : Int))
                  b [] [] (List.take (Int.toNat (IntKind.wrap IntKind.i64 ((↑(List.length b) : Int) - (4 : Int)))) b)
                  (takeA (List.take (Int.toNat (IntKind.wrap IntKind.i64 ((↑(List.length b) : Int) - (4 : Int)))) b)
                    (4 : Int) (0 : Int) (1 : Int))
                  (takeE (List.take (Int.toNat (IntKind.wrap IntKind.i64 ((↑(List.length b) : Int) - (4 : Int)))) b)
                    (4 : Int) (0 : Int) (1 : Int))
            else none
        else none
    else none
else none := by kernel_rfl
theorem s7_12 {ρ : Type} (fu : Nat) (K : AV → List (Nat × AO) → Nat → Option ρ) (f12 : Nat) (x0 : Int) (x1 : Int) (x2 : List UInt8) (x3 : List (List UInt8 × List (List UInt8 × List UInt8))) (x4 : List (List UInt8 × List (List UInt8 × List UInt8))) (x5 : List UInt8) (x6 : Int) (x7 : Int) :
    l7_12 fu K  (f12 + 1) x0 x1 x2 x3 x4 x5 x6 x7 =
    bif decide (x0 < x1) then
  bif x7 == (0 : Int) then
    bif rdOk x5 x6 && gd (List.length x5 ≤ (65536 : Nat)) then
      bif decide (List.length x3 + (1 : Nat) ≤ lim) then
        l7_12 fu K f12 (IntKind.wrap IntKind.u64 (x0 + (1 : Int))) x1 x2
          (x3 ++ [(textS x5 x6 x7 (16 : Int), Prod.fst (oneR x5 x6 x7))]) x4 x5 (Prod.fst (Prod.snd (oneR x5 x6 x7)))
          (Prod.snd (Prod.snd (oneR x5 x6 x7)))
      else none
    else none
  else
    bif endE x5 x6 x7 != (0 : Int) then
      K (AV.tup [AV.own (0 : Nat), AV.int IntKind.i64 (endE x5 x6 x7)])
        [((0 : Nat), AO.row (Ty.prod Ty.str (Ty.list (Ty.prod Ty.str Ty.str))) x4)] (1 : Nat)
    else
      bif gd (List.length x3 ≤ (65536 : Nat)) && gd (fine x3) then
        bif mayB x3 then
          bif !putB x3 == x2 then
            K (AV.tup [AV.own (0 : Nat), AV.int IntKind.i64 (3 : Int)])
              [((0 : Nat), AO.row (Ty.prod Ty.str (Ty.list (Ty.prod Ty.str Ty.str))) x4)] (1 : Nat)
          else
            K (AV.tup [AV.own (0 : Nat), AV.int IntKind.i64 (0 : Int)])
              [((0 : Nat), AO.frow (Ty.prod Ty.str (Ty.list (Ty.prod Ty.str Ty.str))) x3)] (1 : Nat)
        else
          K (AV.tup [AV.own (0 : Nat), AV.int IntKind.i64 (3 : Int)])
            [((0 : Nat), AO.row (Ty.prod Ty.str (Ty.list (Ty.prod Ty.str Ty.str))) x4)] (1 : Nat)
      else none
else
  bif endE x5 x6 x7 != (0 : Int) then
    K (AV.tup [AV.own (0 : Nat), AV.int IntKind.i64 (endE x5 x6 x7)])
      [((0 : Nat), AO.row (Ty.prod Ty.str (Ty.list (Ty.prod Ty.str Ty.str))) x4)] (1 : Nat)
  else
    bif gd (List.length x3 ≤ (65536 : Nat)) && gd (fine x3) then
      bif mayB x3 then
        bif !putB x3 == x2 then
          K (AV.tup [AV.own (0 : Nat), AV.int IntKind.i64 (3 : Int)])
            [((0 : Nat), AO.row (Ty.prod Ty.str (Ty.list (Ty.prod Ty.str Ty.str))) x4)] (1 : Nat)
        else
          K (AV.tup [AV.own (0 : Nat), AV.int IntKind.i64 (0 : Int)])
            [((0 : Nat), AO.frow (Ty.prod Ty.str (Ty.list (Ty.prod Ty.str Ty.str))) x3)] (1 : Nat)
      else
        K (AV.tup [AV.own (0 : Nat), AV.int IntKind.i64 (3 : Int)])
          [((0 : Nat), AO.row (Ty.prod Ty.str (Ty.list (Ty.prod Ty.str Ty.str))) x4)] (1 : Nat)
    else none := by kernel_rfl

theorem l8 {ρ : Type} (fu : Nat) (K : AV → List (Nat × AO) → Nat → Option ρ) (l : Vols) (hl : l.length ≤ 16) (hs : fine l) (hn : ∀ v ∈ l, v.1.length ≤ 16) : ∀ (f k : Nat) (acc : List UInt8), l.length + 1 ≤ k + f → k ≤ l.length → acc.length ≤ 1000 + 4000000 * k →
    l8_5 fu K f (k : Int) (l.length : Int) l acc = K (.tup [.own 0, .int .i64 0]) [(0, .row .byte ((acc ++ wrAll (l.drop k)) ++ le4 (sumN 0 (acc ++ wrAll (l.drop k)))))] 1 ∨ f = 0
  | 0, _, _, _, _, _ => .inr rfl
  | f + 1, k, acc, hf, hk, hac => by
    left
    rw [s8_5]
    by_cases h : k < l.length
    · have h1 : decide ((k : Int) < (l.length : Int)) = true := decide_eq_true (by omega)
      obtain ⟨g1, g2⟩ := hs l[k] (List.getElem_mem h)
      have g3 := hn l[k] (List.getElem_mem h)
      have hwl := wrOne_len l[k] g3 g1 g2
      rw [h1, cond_true, inb_nat h, cond_true, Int.toNat_natCast, getD_of h, gd_t g3, gd_t g1, gd_t g2, Bool.and_self, Bool.and_self, cond_true]
      have hwl : (wrOne (l[k].1, l[k].2)).length ≤ 4000000 := hwl
      rw [lim_t (by omega), cond_true, wrap_i64 (by omega) (by omega)]
      have e1 : l.drop k = l[k] :: l.drop (k + 1) := List.drop_eq_getElem_cons h
      rcases l8 fu K l hl hs hn f (k + 1) (acc ++ wrOne l[k]) (by omega) (by omega) (by rw [List.length_append]; have : (wrOne l[k]).length ≤ 4000000 := hwl; omega) with h3 | h3
      · rw [show ((k : Int) + 1) = ((k + 1 : Nat) : Int) by omega, e1, wrAll, ← List.append_assoc acc]
        exact h3
      · omega
    · have h1 : decide ((k : Int) < (l.length : Int)) = false := decide_eq_false (by omega)
      rw [h1, cond_false, sg_t (by omega), List.drop_eq_nil_of_le (by omega), wrAll, List.append_nil]
      rfl
noncomputable def v8 {ρ : Type} (K : AV → List (Nat × AO) → Nat → Option ρ) (l : Vols) : Option ρ :=
  bif lg l && gd (fine l) then (bif mayB l then K (.tup [.own 0, .int .i64 0]) [(0, .row .byte (putB l))] 1 else K (.tup [.nils, .int .i64 1]) [] 0) else none
noncomputable def S8 : Summ := fun ρ args hp K => match args, hp with
  | [.sl (.prod .str (.list (.prod .str .str))) l], [] => v8 K l
  | _, _ => none
theorem a8 {ρ : Type} {fin : ρ} (K : AV → List (Nat × AO) → Nat → Option ρ) (l : Vols) (h : v8 K l = some fin) : aFun E5 ann8 pl8 65537 Go.Proofs.Tryz.f8 [.sl (.prod .str (.list (.prod .str .str))) l] [] 0 K = some fin := by
  obtain ⟨hg, h⟩ := bif_t h
  rw [e8, hg, cond_true, ← h]
  rw [Bool.and_eq_true] at hg
  cases hm : mayB l
  · rfl
  · obtain ⟨h16, hn⟩ := may_is hm
    rw [wrap_u8 (n := ((l.length : Nat) : Int)) (by omega) (by omega), rg_t (by omega), Int.toNat_natCast, sg_t (by simp)]
    rcases l8 65537 K l h16 (gd_is hg.2) hn 65537 0 [109, 114, 99, 116, UInt8.ofNat l.length] (by omega) (by omega) (by simp) with h3 | h3
    · exact h3
    · omega
theorem ok8 : SpecOk Go.Proofs.Tryz.prog 8 (adapt [.imm (.prod .str (.list (.prod .str .str)))] .keep S8) := adapt_ok (use mixed env5 Go.Proofs.Tryz.func8 (by kernel_rfl) (by
  intro ρ fin args hp K h
  unfold S8 at h
  split at h
  · exact ⟨_, _, _, a8 K _ h⟩
  · cases h)) _ _

/-! The reference's reading. -/
theorem pairsR_ok (b : List UInt8) (hb : b.length ≤ 65536) : ∀ (m k : Nat) (e : Int) (last : List UInt8) (acc : Prs), k ≤ b.length → last.length ≤ 16 → acc.length ≤ k → small acc →
    ∃ j : Nat, (pairsR b m last k e acc).2.1 = j ∧ j ≤ b.length ∧ small (pairsR b m last k e acc).1 ∧ (pairsR b m last k e acc).1.length ≤ b.length
  | 0, k, e, last, acc, hk, hl, ha, hs => ⟨k, rfl, hk, hs, by show acc.length ≤ _; omega⟩
  | m + 1, k, e, last, acc, hk, hl, ha, hs => by
    rw [pairsR]
    split
    · exact ⟨k, rfl, hk, hs, by show acc.length ≤ _; omega⟩
    · split
      · obtain ⟨j, hj, _, hjl, _⟩ := take_at b k e 1 hk (by omega)
        exact ⟨j, hj, hjl, hs, by show acc.length ≤ _; omega⟩
      · rename_i hE
        have hE : takeE b k e 1 = 0 := by simpa using hE
        split
        · obtain ⟨j, hj, _, hjl, _⟩ := take_at b k e 1 hk (by omega)
          exact ⟨j, hj, hjl, hs, by show acc.length ≤ _; omega⟩
        · obtain ⟨q, hq, hkq, hql, hq0⟩ := pair_at b k e last hk
          have := hq0 hE
          rw [hq]
          refine pairsR_ok b hb m q (pairE b k e last) (pairK b k e last) _ hql (key_len b k e last hk hl) (by simp; omega) ?_
          intro p hp
          rcases List.mem_append.1 hp with hp | hp
          · exact hs p hp
          · obtain rfl := List.mem_singleton.1 hp
            exact ⟨key_len b k e last hk hl, val_len b k e last hk⟩
theorem oneR_ok (b : List UInt8) (hb : b.length ≤ 65536) (k : Nat) (e : Int) (hk : k ≤ b.length) : ∃ j : Nat, (oneR b k e).2.1 = j ∧ j ≤ b.length ∧ small (oneR b k e).1 ∧ (oneR b k e).1.length ≤ 65536 := by
  unfold oneR
  obtain ⟨j, hj, _, hjl, _⟩ := text_at b k e 16 hk
  rw [hj]
  obtain ⟨i, hi, _, hil, _⟩ := take_at b j (textE b k e 16) 4 hjl (by omega)
  have hi : takeA b j (textE b k e 16) 4 = i := hi
  rw [hi]
  obtain ⟨q, h1, h2, h3, h4⟩ := pairsR_ok b hb (takeV b j (textE b k e 16) 4).toNat i (takeE b j (textE b k e 16) 4) [] [] hil (by simp) (by simp) (fun p hp => by cases hp)
  exact ⟨q, h1, h2, h3, by omega⟩
def volsR (b : List UInt8) : Nat → Int → Int → Vols → Vols × Int × Int
  | 0, a, e, out => (out, a, e)
  | n + 1, a, e, out => if e ≠ 0 then (out, a, e) else volsR b n (oneR b a e).2.1 (oneR b a e).2.2 (out ++ [(textS b a e 16, (oneR b a e).1)])
theorem volsR_ok (b : List UInt8) (hb : b.length ≤ 65536) : ∀ (n k : Nat) (e : Int) (out : Vols), k ≤ b.length → fine out → ∃ j : Nat, (volsR b n k e out).2.1 = j ∧ j ≤ b.length ∧ fine (volsR b n k e out).1 ∧ (volsR b n k e out).1.length ≤ out.length + n
  | 0, k, e, out, hk, hs => ⟨k, rfl, hk, hs, by show out.length ≤ _; omega⟩
  | n + 1, k, e, out, hk, hs => by
    rw [volsR]
    split
    · exact ⟨k, rfl, hk, hs, by show out.length ≤ _; omega⟩
    · obtain ⟨q, hq, hql, h3, h4⟩ := oneR_ok b hb k e hk
      rw [hq]
      obtain ⟨j, g1, g2, g3, g4⟩ := volsR_ok b hb n q (oneR b k e).2.2 (out ++ [(textS b k e 16, (oneR b k e).1)]) hql (by
        intro v hv
        rcases List.mem_append.1 hv with hv | hv
        · exact hs v hv
        · obtain rfl := List.mem_singleton.1 hv
          exact ⟨h4, h3⟩)
      exact ⟨j, g1, g2, g3, by rw [List.length_append] at g4; simp at g4; omega⟩

/-- Behind the volumes. -/
def endR (b own : List UInt8) (r : Vols × Int × Int) : Vols × Int :=
  if endE own r.2.1 r.2.2 ≠ 0 then ([], endE own r.2.1 r.2.2) else if mayB r.1 = true ∧ putB r.1 = b then (r.1, 0) else ([], 3)
/-- The reference's answer: a list (of no weight where there is an error), and the error. -/
noncomputable def kR {ρ : Type} (K : AV → List (Nat × AO) → Nat → Option ρ) (x : Vols × Int) : Option ρ :=
  bif gd (x.2 = 0) then K (.tup [.own 0, .int .i64 0]) [(0, .frow (.prod .str (.list (.prod .str .str))) x.1)] 1 else K (.tup [.own 0, .int .i64 x.2]) [(0, .row (.prod .str (.list (.prod .str .str))) [])] 1

theorem end_text {ρ : Type} (K : AV → List (Nat × AO) → Nat → Option ρ) (b own : List UInt8) (x3 x4 : Vols) (hx : x4 = []) (x6 x7 : Int) (hl : x3.length ≤ 65536) (hs : fine x3) :
    (bif endE own x6 x7 != (0 : Int) then
      K (AV.tup [AV.own (0 : Nat), AV.int IntKind.i64 (endE own x6 x7)]) [((0 : Nat), AO.row (Ty.prod Ty.str (Ty.list (Ty.prod Ty.str Ty.str))) x4)] (1 : Nat)
    else
      bif gd (List.length x3 ≤ (65536 : Nat)) && gd (fine x3) then
        bif mayB x3 then
          bif !putB x3 == b then
            K (AV.tup [AV.own (0 : Nat), AV.int IntKind.i64 (3 : Int)]) [((0 : Nat), AO.row (Ty.prod Ty.str (Ty.list (Ty.prod Ty.str Ty.str))) x4)] (1 : Nat)
          else
            K (AV.tup [AV.own (0 : Nat), AV.int IntKind.i64 (0 : Int)]) [((0 : Nat), AO.frow (Ty.prod Ty.str (Ty.list (Ty.prod Ty.str Ty.str))) x3)] (1 : Nat)
        else
          K (AV.tup [AV.own (0 : Nat), AV.int IntKind.i64 (3 : Int)]) [((0 : Nat), AO.row (Ty.prod Ty.str (Ty.list (Ty.prod Ty.str Ty.str))) x4)] (1 : Nat)
      else none) = kR K (endR b own (x3, x6, x7)) := by
  subst hx
  unfold endR
  simp only
  by_cases hE : endE own x6 x7 = 0
  · have h1 : (endE own x6 x7 != 0) = false := by rw [hE]; rfl
    rw [h1, cond_false, gd_t hl, gd_t hs, Bool.and_self, cond_true, if_neg (by simp [hE])]
    cases hm : mayB x3
    · rw [cond_false, if_neg (by simp)]
      unfold kR
      rw [gd_f (by simp)]; rfl
    · by_cases hp : putB x3 = b
      · have h2 : (putB x3 == b) = true := by rw [beq_iff_eq]; exact hp
        rw [h2, if_pos ⟨rfl, hp⟩]
        unfold kR
        rw [gd_t rfl]; rfl
      · have h2 : (putB x3 == b) = false := by rw [beq_eq_false_iff_ne]; exact hp
        rw [h2, if_neg (fun h => hp h.2)]
        unfold kR
        rw [gd_f (by simp)]; rfl
  · have h1 : (endE own x6 x7 != 0) = true := by simp [hE]
    rw [h1, cond_true, if_pos hE]
    unfold kR
    rw [gd_f hE]; rfl

theorem l7 {ρ : Type} (fu : Nat) (K : AV → List (Nat × AO) → Nat → Option ρ) (b own : List UInt8) (hb : own.length ≤ 65536) (n : Nat) (hn : n ≤ 256) : ∀ (f i k : Nat) (e : Int) (out : Vols), k ≤ own.length → n + 1 ≤ i + f → i ≤ n → out.length ≤ i → fine out →
    l7_12 fu K f (i : Int) (n : Int) b out [] own (k : Int) e = kR K (endR b own (volsR own (n - i) k e out)) ∨ f = 0
  | 0, _, _, _, _, _, _, _, _, _ => .inr rfl
  | f + 1, i, k, e, out, hk, hf, hi, ho, hs => by
    left
    rw [s7_12, end_text K b own out [] rfl k e (by omega) hs]
    by_cases h : i < n
    · have h1 : decide ((i : Int) < (n : Int)) = true := decide_eq_true (by omega)
      rw [h1, cond_true]
      have e1 : n - i = (n - (i + 1)) + 1 := by omega
      by_cases he : e = 0
      · have h2 : (e == 0) = true := by rw [he]; rfl
        obtain ⟨q, hq, hql, h3, h4⟩ := oneR_ok own hb k e hk
        rw [h2, cond_true, rdOk_t hk (by omega), gd_t hb, Bool.and_self, cond_true, lim_t (by omega), cond_true, wrap_u64 (by omega) (by omega), hq]
        rcases l7 fu K b own hb n hn f (i + 1) q (oneR own k e).2.2 (out ++ [(textS own k e 16, (oneR own k e).1)]) hql (by omega) (by omega) (by simp; omega) (by
          intro v hv
          rcases List.mem_append.1 hv with hv | hv
          · exact hs v hv
          · obtain rfl := List.mem_singleton.1 hv
            exact ⟨h4, h3⟩) with h5 | h5
        · rw [show ((i : Int) + 1) = ((i + 1 : Nat) : Int) by omega, h5, e1, volsR, if_neg (by simp [he]), hq]
        · omega
      · have h2 : (e == 0) = false := by simp [he]
        rw [h2, cond_false, e1, volsR, if_pos he]
    · have h1 : decide ((i : Int) < (n : Int)) = false := decide_eq_false (by omega)
      have : n - i = 0 := by omega
      rw [h1, cond_false, this, volsR]

def mrct : List UInt8 := [109, 114, 99, 116]
def refGet (b : List UInt8) : Vols × Int :=
  if fitsB b = false then ([], 5)
  else if (b.take (b.length - 4)).take 4 ≠ mrct then ([], 7)
  else if takeV (b.take (b.length - 4)) 4 0 1 > 16 then ([], 13)
  else endR b (b.take (b.length - 4)) (volsR (b.take (b.length - 4)) (takeV (b.take (b.length - 4)) 4 0 1).toNat (takeA (b.take (b.length - 4)) 4 0 1) (takeE (b.take (b.length - 4)) 4 0 1) [])
noncomputable def v7 {ρ : Type} (K : AV → List (Nat × AO) → Nat → Option ρ) (b : List UInt8) : Option ρ := bif gd (b.length ≤ 65536) then kR K (refGet b) else none
noncomputable def S7 : Summ := fun ρ args hp K => match args, hp with
  | [.sl .byte b], [] => v7 K b
  | _, _ => none
theorem fits_len {b : List UInt8} (h : fitsB b = true) : 4 ≤ b.length := by
  unfold fitsB at h
  simp only [Bool.and_eq_true, decide_eq_true_eq] at h
  exact h.1
theorem a7 {ρ : Type} {fin : ρ} (K : AV → List (Nat × AO) → Nat → Option ρ) (b : List UInt8) (h : v7 K b = some fin) : aFun E5 ann7 pl7 300 Go.Proofs.Tryz.f7 [.sl .byte b] [] 0 K = some fin := by
  obtain ⟨hg, h⟩ := bif_t h
  have hb := gd_is hg
  rw [e7, hg, cond_true, ← h]
  unfold refGet
  cases hf : fitsB b
  · rw [if_pos rfl]
    unfold kR
    rw [gd_f (by simp)]; rfl
  · have h4 := fits_len hf
    have hw : IntKind.wrap .i64 ((b.length : Int) - 4) = ((b.length - 4 : Nat) : Int) := by rw [wrap_i64 (by omega) (by omega)]; omega
    have h2 : (decide ((0 : Int) ≤ ((b.length - 4 : Nat) : Int)) && decide (((b.length - 4 : Nat) : Int) ≤ (b.length : Int))) = true := by simp <;> omega
    rw [if_neg (by simp), Bool.not_true, cond_false, hw, h2, cond_true, Int.toNat_natCast]
    have hol : (b.take (b.length - 4)).length = b.length - 4 := by rw [List.length_take]; omega
    generalize hown : b.take (b.length - 4) = own at hol ⊢
    by_cases h8 : own.length < 4
    · have h5 : decide ((own.length : Int) < 4) = true := decide_eq_true (by omega)
      have h6 : own.take 4 ≠ mrct := by
        intro e
        have := congrArg List.length e
        rw [List.length_take] at this
        simp [mrct] at this
        omega
      rw [h5, cond_true, if_pos h6]
      unfold kR
      rw [gd_f (by simp)]; rfl
    · have h5 : decide ((own.length : Int) < 4) = false := decide_eq_false (by omega)
      have h6 : decide ((4 : Int) ≤ (own.length : Int)) = true := decide_eq_true (by omega)
      rw [h5, cond_false, h6, cond_true]
      by_cases hm : own.take 4 = mrct
      · have h7 : (own.take 4 == [(109 : UInt8), 114, 99, 116]) = true := by rw [beq_iff_eq]; exact hm
        have hr : rdOk own (4 : Int) = true := rdOk_t (k := 4) (by omega) (by omega)
        rw [h7, Bool.not_true, cond_false, hr, rg19, Bool.and_self, cond_true, if_neg (by simp [hm])]
        obtain ⟨_, _, v, hv, hlt⟩ := take_is own 4 0 1 (by omega) (by omega)
        have hv : takeV own 4 0 1 = v := hv
        have hlt : v < 256 := by simpa using hlt
        obtain ⟨q, hq, _, hql, _⟩ := take_at own 4 0 1 (by omega) (by omega)
        have hq : takeA own 4 0 1 = q := hq
        rw [hv, hq]
        by_cases hc : v > 16
        · have h9 : decide ((v : Int) > 16) = true := decide_eq_true (by omega)
          rw [h9, cond_true, if_pos (by omega)]
          unfold kR
          rw [gd_f (by simp)]; rfl
        · have h9 : decide ((v : Int) > 16) = false := decide_eq_false (by omega)
          rw [h9, cond_false, if_neg (by omega)]
          rcases l7 300 K b own (by omega) v (by omega) 300 0 q (takeE own 4 0 1) [] hql (by omega) (by omega) (by simp) (fun v hv => by cases hv) with h3 | h3
          · exact h3
          · omega
      · have h7 : (own.take 4 == [(109 : UInt8), 114, 99, 116]) = false := by rw [beq_eq_false_iff_ne]; exact hm
        rw [h7, Bool.not_false, cond_true, if_pos hm]
        unfold kR
        rw [gd_f (by simp)]; rfl
theorem ok7 : SpecOk Go.Proofs.Tryz.prog 7 S7 := use mixed env5 Go.Proofs.Tryz.func7 (by kernel_rfl) (by
  intro ρ fin args hp K h
  unfold S7 at h
  split at h
  · exact ⟨_, _, _, a7 K _ h⟩
  · cases h)

noncomputable def L6 : List (Nat × Summ) := [(8, adapt [.imm (.prod .str (.list (.prod .str .str)))] .keep S8), (7, S7)] ++ L5
theorem L6_ok : ∀ p ∈ L6, SpecOk Go.Proofs.Tryz.prog p.1 p.2 := oks_cons ok8 <| oks_cons ok7 L5_ok
noncomputable def E6 : Env := ⟨tabOf 370 ttab, lookS L6⟩
theorem env6 : EnvOk Go.Proofs.Tryz.prog E6 := ⟨tabOk_ok tabTrue, lookS_ok L6_ok⟩
end Go.Ai.Dn
