/- The seventh layer: dumps read by the program. -/
import Derived.Test.YtjjobkpflphpiaaGreatAiDnW
set_option maxRecDepth 100000
set_option linter.unusedVariables false
set_option linter.unusedSimpArgs false
namespace Go.Ai.Dn
noncomputable def ann11 : Nat → Option (List (Nat × Mode)) := lookN []
noncomputable def pl11 : Nat → Option (List (Nat × Bool) × List Nat) := lookN []
theorem e11 {ρ : Type} (fu : Nat) (K : AV → List (Nat × AO) → Nat → Option ρ) (b : List UInt8) :
    aFun E6 ann11 pl11 fu Go.Proofs.Tryz.f11 [AV.sl Ty.byte b] [] 0 K =
    bif gd (List.length b ≤ (65536 : Nat)) then
  bif !fitsB b then K (AV.tup [AV.nils, AV.int IntKind.i64 (5 : Int)]) [] (0 : Nat)
  else
    bif
        decide ((0 : Int) ≤ IntKind.wrap IntKind.i64 ((↑(List.length b) : Int) - (4 : Int))) &&
          decide (IntKind.wrap IntKind.i64 ((↑(List.length b) : Int) - (4 : Int)) ≤ (↑(List.length b) : Int)) then
      bif
          !List.take (List.length [(109 : UInt8), (114 : UInt8), (99 : UInt8), (116 : UInt8)])
                (List.take (Int.toNat (IntKind.wrap IntKind.i64 ((↑(List.length b) : Int) - (4 : Int)))) b) ==
              [(109 : UInt8), (114 : UInt8), (99 : UInt8), (116 : UInt8)] then
        K (AV.tup [AV.nils, AV.int IntKind.i64 (7 : Int)]) [] (0 : Nat)
      else
        bif
            decide ((0 : Int) ≤ IntKind.wrap IntKind.i64 ((↑(List.length b) : Int) - (4 : Int))) &&
              decide (IntKind.wrap IntKind.i64 ((↑(List.length b) : Int) - (4 : Int)) ≤ (↑(List.length b) : Int)) then
          bif
              decide
                ((4 : Int) ≤
                  (↑(Int.toNat (IntKind.wrap IntKind.i64 ((↑(List.length b) : Int) - (4 : Int)))) : Int)) then
            bif
                lg
                  (List.drop (4 : Nat)
                    (List.take (Int.toNat (IntKind.wrap IntKind.i64 ((↑(List.length b) : Int) - (4 : Int)))) b)) then
              bif
                  gd
                    (List.length
                        (List.drop (4 : Nat)
                          (List.take (Int.toNat (IntKind.wrap IntKind.i64 ((↑(List.length b) : Int) - (4 : Int)))) b)) ≤
                      (65536 : Nat)) then
                bif
                    gd
                      (takeV
                          (List.drop (4 : Nat)
                            (List.take (Int.toNat (IntKind.wrap IntKind.i64 ((↑(List.length b) : Int) - (4 : Int)))) b))
                          (0 : Int) (0 : Int) (1 : Int) >
                        (16 : Int)) then
                  K
                    (AV.tup
                      [AV.nils,
                        AV.int IntKind.i64
                          (endE
                            (List.drop (4 : Nat)
                              (List.take (Int.toNat (IntKind.wrap IntKind.i64 ((↑(List.length b) : Int) - (4 : Int))))
                                b))
                            (takeA
                              (List.drop (4 : Nat)
                                (List.take (Int.toNat (IntKind.wrap IntKind.i64 ((↑(List.length b) : Int) - (4 : Int))))
                                  b))
                              (0 : Int) (0 : Int) (1 : Int))
                            (13 : Int))])
                    [] (0 : Nat)
                else
                  bif
                      endE
                          (List.drop (4 : Nat)
                            (List.take (Int.toNat (IntKind.wrap IntKind.i64 ((↑(List.length b) : Int) - (4 : Int)))) b))
                          (Prod.fst
                            (Prod.snd
                              (takenP
                                (List.drop (4 : Nat)
                                  (List.take
                                    (Int.toNat (IntKind.wrap IntKind.i64 ((↑(List.length b) : Int) - (4 : Int)))) b)))))
                          (Prod.snd
                            (Prod.snd
                              (takenP
                                (List.drop (4 : Nat)
                                  (List.take
                                    (Int.toNat (IntKind.wrap IntKind.i64 ((↑(List.length b) : Int) - (4 : Int))))
                                    b))))) !=
                        (0 : Int) then
                    K
                      (AV.tup
                        [AV.nils,
                          AV.int IntKind.i64
                            (endE
                              (List.drop (4 : Nat)
                                (List.take (Int.toNat (IntKind.wrap IntKind.i64 ((↑(List.length b) : Int) - (4 : Int))))
                                  b))
                              (Prod.fst
                                (Prod.snd
                                  (takenP
                                    (List.drop (4 : Nat)
                                      (List.take
                                        (Int.toNat (IntKind.wrap IntKind.i64 ((↑(List.length b) : Int) - (4 : Int))))
                                        b)))))
                              (Prod.snd
                                (Prod.snd
                                  (takenP
                                    (List.drop (4 : Nat)
                                      (List.take
                                        (Int.toNat (IntKind.wrap IntKind.i64 ((↑(List.length b) : Int) - (4 : Int))))
                                        b))))))])
                      [] (0 : Nat)
                  else
                    bif
                        lg
                            (Prod.fst
                              (takenP
                                (List.drop (4 : Nat)
                                  (List.take
                                    (Int.toNat (IntKind.wrap IntKind.i64 ((↑(List.length b) : Int) - (4 : Int))))
                                    b)))) &&
                          gd
                            (fine
                              (Prod.fst
                                (takenP
                                  (List.drop (4 : Nat)
                                    (List.take
                                      (Int.toNat (IntKind.wrap IntKind.i64 ((↑(List.length b) : Int) - (4 : Int))))
                                      b))))) then
                      bif
                          mayB
                            (Prod.fst
                              (takenP
                                (List.drop (4 : Nat)
                                  (List.take
                                    (Int.toNat (IntKind.wrap IntKind.i64 ((↑(List.length b) : Int) - (4 : Int))))
                                    b)))) then
                        bif
                            lg
                              (putB
                                (Prod.fst
                                  (takenP
                                    (List.drop (4 : Nat)
                                      (List.take
                                        (Int.toNat (IntKind.wrap IntKind.i64 ((↑(List.length b) : Int) - (4 : Int))))
                                        b))))) then
                          bif
                              !putB
                                    (Prod.fst
                                      (takenP
                                        (List.drop (4 : Nat)
                                          (List.take
                                            (Int.toNat
                                              (IntKind.wrap IntKind.i64 ((↑(List.length b) : Int) - (4 : Int))))
                                            b)))) ==
                                  b then
                            K (AV.tup [AV.nils, AV.int IntKind.i64 (3 : Int)]) [] (0 : Nat)
                          else
                            K (AV.tup [AV.own (0 : Nat), AV.int IntKind.i64 (0 : Int)])
                              [((0 : Nat),
                                  AO.frow (Ty.prod Ty.str (Ty.list (Ty.prod Ty.str Ty.str)))
                                    (takenP
                                        (List.drop (4 : Nat)
                                          (List.take
                                            (Int.toNat
                                              (IntKind.wrap IntKind.i64 ((↑(List.length b) : Int) - (4 : Int))))
                                            b))).1)]
                              (1 : Nat)
                        else none
                      else K (AV.tup [AV.nils, AV.int IntKind.i64 (3 : Int)]) [] (0 : Nat)
                    else none
              else none
            else none
          else none
        else none
    else none
else none := by kernel_rfl
noncomputable def ann5 : Nat → Option (List (Nat × Mode)) := lookN [(5, [(0, .keep), (13, .keep), (14, .keep), (15, .keep), (4, .keep)])]
noncomputable def pl5 : Nat → Option (List (Nat × Bool) × List Nat) := lookN []
theorem e5 {ρ : Type} (fu : Nat) (K : AV → List (Nat × AO) → Nat → Option ρ)  :
    aFun E6 ann5 pl5 fu Go.Proofs.Tryz.f5 [AV.nilp] [] 0 K =
    K (AV.tup [AV.nils, AV.int IntKind.i64 (1 : Int)]) [] (0 : Nat) := by kernel_rfl
noncomputable def ann4 : Nat → Option (List (Nat × Mode)) := lookN []
noncomputable def pl4 : Nat → Option (List (Nat × Bool) × List Nat) := lookN []
theorem e4 {ρ : Type} (fu : Nat) (K : AV → List (Nat × AO) → Nat → Option ρ)  :
    aFun E6 ann4 pl4 fu Go.Proofs.Tryz.f4 [] [] 0 K =
    bif lg ([] : Vols) && gd (fine []) then
  K
    (AV.bool
      (List.take (5 : Nat) (putB []) == [(109 : UInt8), (114 : UInt8), (99 : UInt8), (116 : UInt8), (0 : UInt8)]))
    [] (0 : Nat)
else none := by kernel_rfl

theorem wrAll_len : ∀ (l : Vols), fine l → (∀ v ∈ l, v.1.length ≤ 16) → (wrAll l).length ≤ 4000000 * l.length
  | [], _, _ => by simp [wrAll]
  | v :: r, h1, h2 => by
    have a := wrOne_len v (h2 v (by simp)) (h1 v (by simp)).1 (h1 v (by simp)).2
    have b := wrAll_len r (fun u hu => h1 u (by simp [hu])) (fun u hu => h2 u (by simp [hu]))
    simp [wrAll]; omega
theorem putB_len {l : Vols} (h : mayB l = true) (hs : fine l) : (putB l).length ≤ 100000000 := by
  obtain ⟨h16, hn⟩ := may_is h
  have := wrAll_len l hs hn
  unfold putB bodyB
  simp [le4]; omega
theorem taken_fine (c : List UInt8) (hc : c.length ≤ 65536) (h : endE c (takenP c).2.1 (takenP c).2.2 = 0) : fine (takenP c).1 ∧ (takenP c).1.length ≤ 256 := by
  have h0 : (takenP c).2.2 = 0 := by
    unfold endE at h
    split at h
    · assumption
    · exact h
  obtain ⟨_, _, v, hv, hlt⟩ := take_is c 0 0 1 (by omega) (by omega)
  have hv : takeV c 0 0 1 = v := hv
  have hlt : v < 256 := by simpa using hlt
  obtain ⟨q, hq, _, hql, _⟩ := take_at c 0 0 1 (by omega) (by omega)
  have hq : takeA c 0 0 1 = q := hq
  unfold takenP at h0 ⊢
  rw [hq, hv] at h0 ⊢
  rw [Int.toNat_natCast] at h0 ⊢
  obtain ⟨h1, h2⟩ := vols_eq c hc v q (takeE c 0 0 1) [] hql
  rw [h2 (by rw [← h1]; exact h0)]
  obtain ⟨j, _, _, g3, g4⟩ := volsR_ok c hc v q (takeE c 0 0 1) [] hql (fun v hv => by cases hv)
  exact ⟨g3, by simp at g4; omega⟩

noncomputable def kP {ρ : Type} (K : AV → List (Nat × AO) → Nat → Option ρ) (x : Vols × Int) : Option ρ :=
  bif gd (x.2 = 0) then K (.tup [.own 0, .int .i64 0]) [(0, .frow (.prod .str (.list (.prod .str .str))) x.1)] 1 else K (.tup [.nils, .int .i64 x.2]) [] 0
theorem kP_bad {ρ : Type} (K : AV → List (Nat × AO) → Nat → Option ρ) (x : Vols × Int) (h : x.2 ≠ 0) : kP K x = K (.tup [.nils, .int .i64 x.2]) [] 0 := by
  unfold kP
  rw [gd_f h]; rfl
theorem end_textP {ρ : Type} (K : AV → List (Nat × AO) → Nat → Option ρ) (b c : List UInt8) (hc : c.length ≤ 65536) :
    (bif endE c (takenP c).2.1 (takenP c).2.2 != (0 : Int) then K (AV.tup [AV.nils, AV.int IntKind.i64 (endE c (takenP c).2.1 (takenP c).2.2)]) [] (0 : Nat)
    else
      bif lg (takenP c).1 && gd (fine (takenP c).1) then
        bif mayB (takenP c).1 then
          bif lg (putB (takenP c).1) then
            bif !(putB (takenP c).1 == b) then K (AV.tup [AV.nils, AV.int IntKind.i64 (3 : Int)]) [] (0 : Nat)
            else K (AV.tup [AV.own (0 : Nat), AV.int IntKind.i64 (0 : Int)]) [((0 : Nat), AO.frow (Ty.prod Ty.str (Ty.list (Ty.prod Ty.str Ty.str))) (takenP c).1)] (1 : Nat)
          else none
        else K (AV.tup [AV.nils, AV.int IntKind.i64 (3 : Int)]) [] (0 : Nat)
      else none) = kP K (endR b c (takenP c)) := by
  unfold endR
  by_cases hE : endE c (takenP c).2.1 (takenP c).2.2 = 0
  · obtain ⟨hs, hl⟩ := taken_fine c hc hE
    have h1 : (endE c (takenP c).2.1 (takenP c).2.2 != 0) = false := by rw [hE]; rfl
    rw [h1, cond_false, lg_t (by omega), gd_t hs, Bool.and_self, cond_true, if_neg (by simp [hE])]
    cases hm : mayB (takenP c).1
    · rw [cond_false, if_neg (by simp)]
      unfold kP
      rw [gd_f (by simp)]; rfl
    · have hpl := putB_len hm hs
      rw [lg_t (by omega), cond_true, cond_true]
      by_cases hp : putB (takenP c).1 = b
      · have h2 : (putB (takenP c).1 == b) = true := by rw [beq_iff_eq]; exact hp
        rw [h2, if_pos ⟨rfl, hp⟩]
        unfold kP
        rw [gd_t rfl]; rfl
      · have h2 : (putB (takenP c).1 == b) = false := by rw [beq_eq_false_iff_ne]; exact hp
        rw [h2, if_neg (fun h => hp h.2)]
        unfold kP
        rw [gd_f (by simp)]; rfl
  · have h1 : (endE c (takenP c).2.1 (takenP c).2.2 != 0) = true := by simp [hE]
    rw [h1, cond_true, if_pos hE]
    unfold kP
    rw [gd_f hE]; rfl
noncomputable def v11 {ρ : Type} (K : AV → List (Nat × AO) → Nat → Option ρ) (b : List UInt8) : Option ρ := bif gd (b.length ≤ 65536) then kP K (refGet b) else none
noncomputable def S11 : Summ := fun ρ args hp K => match args, hp with
  | [.sl .byte b], [] => v11 K b
  | _, _ => none
theorem a11 {ρ : Type} {fin : ρ} (K : AV → List (Nat × AO) → Nat → Option ρ) (b : List UInt8) (h : v11 K b = some fin) : aFun E6 ann11 pl11 9 Go.Proofs.Tryz.f11 [.sl .byte b] [] 0 K = some fin := by
  obtain ⟨hg, h⟩ := bif_t h
  have hb := gd_is hg
  rw [e11, hg, cond_true, ← h]
  unfold refGet
  cases hf : fitsB b
  · rw [if_pos rfl, kP_bad K ([], 5) (by decide)]; rfl
  · have h4 := fits_len hf
    have hw : IntKind.wrap .i64 ((b.length : Int) - 4) = ((b.length - 4 : Nat) : Int) := by rw [wrap_i64 (by omega) (by omega)]; omega
    have h2 : (decide ((0 : Int) ≤ ((b.length - 4 : Nat) : Int)) && decide (((b.length - 4 : Nat) : Int) ≤ (b.length : Int))) = true := by simp <;> omega
    rw [if_neg (by simp), Bool.not_true, cond_false, hw, h2, cond_true, Int.toNat_natCast]
    have hol : (b.take (b.length - 4)).length = b.length - 4 := by rw [List.length_take]; omega
    generalize hown : b.take (b.length - 4) = own at hol ⊢
    by_cases hm : own.take 4 = mrct
    · have h8 : 4 ≤ own.length := by
        have := congrArg List.length hm
        rw [List.length_take] at this
        simp [mrct] at this
        omega
      have h7 : (own.take ([(109 : UInt8), 114, 99, 116] : List UInt8).length == [(109 : UInt8), 114, 99, 116]) = true := by rw [beq_iff_eq]; exact hm
      have h9 : decide ((4 : Int) ≤ ((b.length - 4 : Nat) : Int)) = true := decide_eq_true (by omega)
      have hcl : (own.drop 4).length ≤ 65536 := by rw [List.length_drop]; omega
      rw [h7, Bool.not_true, cond_false, cond_true, h9, cond_true, lg_t (by omega), cond_true, gd_t hcl, cond_true, if_neg (by simp [hm])]
      have hsplit : own = mrct ++ own.drop 4 := by rw [← hm, List.take_append_drop]
      rw [end_textP K b (own.drop 4) hcl]
      generalize own.drop 4 = c at hcl hsplit ⊢
      subst hsplit
      have e1 : takeV (mrct ++ c) 4 0 1 = takeV c 0 0 1 := sh_takeV (p := mrct) rfl 0 0 1
      rw [taken_eq b c hcl, e1]
      by_cases hc : takeV c 0 0 1 > 16
      · rw [gd_t hc, cond_true, if_pos hc, kP_bad K ([], 13) (by decide)]
        have : endE c (takeA c 0 0 1) 13 = 13 := rfl
        rw [this]
      · rw [gd_f hc, cond_false, if_neg hc]
    · have h7 : (own.take ([(109 : UInt8), 114, 99, 116] : List UInt8).length == [(109 : UInt8), 114, 99, 116]) = false := by rw [beq_eq_false_iff_ne]; exact hm
      rw [h7, Bool.not_false, cond_true, if_pos hm, kP_bad K ([], 7) (by decide)]
theorem ok11 : SpecOk Go.Proofs.Tryz.prog 11 S11 := use mixed env6 Go.Proofs.Tryz.func11 (by kernel_rfl) (by
  intro ρ fin args hp K h
  unfold S11 at h
  split at h
  · exact ⟨_, _, _, a11 K _ h⟩
  · cases h)
noncomputable def S5 : Summ := fun ρ args hp K => match args, hp with
  | [.nilp], [] => K (.tup [.nils, .int .i64 1]) [] 0
  | _, _ => none
theorem ok5 : SpecOk Go.Proofs.Tryz.prog 5 S5 := use mixed env6 Go.Proofs.Tryz.func5 (by kernel_rfl) (by
  intro ρ fin args hp K h
  unfold S5 at h
  split at h
  · exact ⟨_, _, _, (e5 9 K).trans h⟩
  · cases h)
noncomputable def S4 : Summ := fun ρ args hp K => match args, hp with
  | [], [] => K (.bool true) [] 0
  | _, _ => none
theorem ok4 : SpecOk Go.Proofs.Tryz.prog 4 S4 := use mixed env6 Go.Proofs.Tryz.func4 (by kernel_rfl) (by
  intro ρ fin args hp K h
  unfold S4 at h
  split at h
  · refine ⟨_, _, _, (e4 9 K).trans ?_⟩
    rw [lg_t (by simp), gd_t (show fine [] from fun v hv => by cases hv), ← h]
    have : ((putB []).take 5 == [(109 : UInt8), 114, 99, 116, 0]) = true := by
      unfold putB bodyB; rfl
    rw [this]; rfl
  · cases h)
noncomputable def L7 : List (Nat × Summ) := [(11, S11), (5, S5), (4, S4)] ++ L6
theorem L7_ok : ∀ p ∈ L7, SpecOk Go.Proofs.Tryz.prog p.1 p.2 := oks_cons ok11 <| oks_cons ok5 <| oks_cons ok4 L6_ok
noncomputable def E7 : Env := ⟨tabOf 370 ttab, lookS L7⟩
theorem env7 : EnvOk Go.Proofs.Tryz.prog E7 := ⟨tabOk_ok tabTrue, lookS_ok L7_ok⟩
end Go.Ai.Dn
