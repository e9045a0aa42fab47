/- Contracts: UTF-8. -/
import Derived.Test.YtjklhbmkajabdaaDoorF10
set_option linter.all false
namespace Go.VS
open Go Go.RowKit
set_option maxRecDepth 10000

theorem s_l1Long (b : Int) {st : Store} {K : V → Store → Prop} (h : K (.x (.int .i64 (long1 b))) st) : Spec Proofs.Tryd.prog 59 [.x (.int .u8 b)] st K := by
  refine Spec.of_fd fd_spec_l1Long rfl ?_
  simp -dsimp -implicitDefEqProofs +contextual (maxSteps := 3000000) (disch := omega) only [go_sem, ↓reduceIte, reduceCtorEq, Nat.reduceEqDiff, Nat.reduceAdd, Nat.reduceSub, Nat.reduceMul, Nat.reduceLeDiff, Nat.reduceBEq, Int.reduceToNat, Int.reduceNeg, Int.reduceEq, Int.reduceLT, Int.reduceLE, Int.reduceAdd, Int.reduceSub, Int.reduceMul, Int.reduceBEq, Int.reduceBNe, Int.reduceGT, Int.reduceGE, beq_self_eq_true, bne_self_eq_false, c_spec_l1Long]
  unfold long1 at h
  refine gcase.dec (fun h1 => Fin.pure0 rfl ?_) (fun h1 => gcase.dec (fun h2 => Fin.pure0 rfl ?_) (fun h2 => gcase.dec (fun h3 => Fin.pure0 rfl ?_) (fun h3 => gcase.dec (fun h4 => Fin.pure0 rfl ?_) (fun h4 => gcase.dec (fun h5 => Fin.pure0 rfl ?_) (fun h5 => Fin.pure0 rfl ?_)))))
  · rwa [if_pos h1] at h
  · rwa [if_neg h1, if_pos h2] at h
  · rwa [if_neg h1, if_neg h2, if_pos h3] at h
  · rwa [if_neg h1, if_neg h2, if_neg h3, if_pos h4] at h
  · rwa [if_neg h1, if_neg h2, if_neg h3, if_neg h4, if_pos h5] at h
  · rwa [if_neg h1, if_neg h2, if_neg h3, if_neg h4, if_neg h5] at h

theorem s_l1Utf8 (r : Int) (hr : goodRune r = true) {st : Store} {K : V → Store → Prop} (h : K (.x (.string (bytes (utf8 r)))) st) : Spec Proofs.Tryd.prog 71 [.x (.int .i64 r)] st K := by
  have hb : 0 ≤ r ∧ r ≤ 1114111 := by simp [goodRune, inR] at hr; omega
  refine Spec.of_fd fd_spec_l1Utf8 rfl ?_
  simp -dsimp -implicitDefEqProofs +contextual (maxSteps := 3000000) (disch := omega) only [go_sem, ↓reduceIte, reduceCtorEq, Nat.reduceEqDiff, Nat.reduceAdd, Nat.reduceSub, Nat.reduceMul, Nat.reduceLeDiff, Nat.reduceBEq, Int.reduceToNat, Int.reduceNeg, Int.reduceEq, Int.reduceLT, Int.reduceLE, Int.reduceAdd, Int.reduceSub, Int.reduceMul, Int.reduceBEq, Int.reduceBNe, Int.reduceGT, Int.reduceGE, beq_self_eq_true, bne_self_eq_false, c_spec_l1Utf8]
  unfold utf8 at h
  refine gcase.dec (fun h1 => ?_) (fun h1 => gcase.dec (fun h2 => ?_) (fun h2 => gcase.dec (fun h3 => ?_) (fun h3 => ?_)))
  all_goals
    simp (disch := omega) only [wrap_i64, IntWalk.u8_in, Int.tdiv_eq_ediv_of_nonneg, Int.tmod_eq_emod_of_nonneg]
    refine Fin.pure (Base.refl _) rfl ?_
  · rw [if_pos h1] at h; exact h
  · rw [if_neg h1, if_pos h2] at h; exact h
  · rw [if_neg h1, if_neg h2, if_pos h3] at h; exact h
  · rw [if_neg h1, if_neg h2, if_neg h3] at h; exact h

theorem by8_nat (s : List UInt8) (i : Nat) : ((s.getD ((i : Int)).toNat 0).toNat : Int) = by8 s i := rfl

theorem bitsN_bd (s : List UInt8) (i : Nat) (l : Int) (hl : 1 ≤ l ∧ l ≤ 4) : ∀ k : Nat, 0 ≤ bitsN s i l k ∧ bitsN s i l k < 256 * 64 ^ k
  | 0 => by
    have hb := by8_bd s i
    unfold bitsN bits1
    split
    · have : (0 : Int) < 2 ^ (7 - l).toNat := Int.pow_pos (by omega)
      have h1 := Int.emod_nonneg (by8 s i) (b := 2 ^ (7 - l).toNat) (by omega)
      have h2 : by8 s i % 2 ^ (7 - l).toNat ≤ by8 s i := by
        have h3 := Int.mul_ediv_add_emod (by8 s i) (2 ^ (7 - l).toNat)
        have h4 : 0 ≤ 2 ^ (7 - l).toNat * (by8 s i / 2 ^ (7 - l).toNat) := Int.mul_nonneg (by omega) (Int.ediv_nonneg hb.1 (by omega))
        omega
      omega
    · omega
  | k + 1 => by
    have ih := bitsN_bd s i l hl k
    have hb := by8_bd s (i + (k + 1))
    unfold bitsN
    rw [Int.pow_succ]
    generalize (64 : Int) ^ k = p at *
    omega

theorem s_l1At (s : List UInt8) (i : Nat) (hi : i < s.length) (hs : s.length ≤ 4611686018427387904) {st : Store} {K : V → Store → Prop} (h : K (.tup [.x (.int .i64 (at1 s i).1), .x (.int .i64 (at1 s i).2)]) st) :
    Spec Proofs.Tryd.prog 60 [.x (.string (bytes s)), .x (.int .i64 i)] st K := by
  have hb := by8_bd s i
  refine Spec.of_fd fd_spec_l1At rfl ?_
  simp -dsimp -implicitDefEqProofs +contextual (maxSteps := 3000000) (disch := omega) only [go_sem, ↓reduceIte, reduceCtorEq, Nat.reduceEqDiff, Nat.reduceAdd, Nat.reduceSub, Nat.reduceMul, Nat.reduceLeDiff, Nat.reduceBEq, Int.reduceToNat, Int.reduceNeg, Int.reduceEq, Int.reduceLT, Int.reduceLE, Int.reduceAdd, Int.reduceSub, Int.reduceMul, Int.reduceBEq, Int.reduceBNe, Int.reduceGT, Int.reduceGE, beq_self_eq_true, bne_self_eq_false, c_spec_l1At, by8_nat]
  refine ⟨by omega, by omega, s_l1Long _ ?_⟩
  have fin0 : (long1 (by8 s i) = 0 ∨ s.length < i + long1 (by8 s i)) → K (.tup [.x (.int .i64 65533), .x (.int .i64 1)]) st := fun hc => by
    unfold at1 at h
    simp only at h
    rw [if_pos hc] at h; exact h
  have fin1 : ¬ (long1 (by8 s i) = 0 ∨ s.length < i + long1 (by8 s i)) → goodRune (bitsN s i (long1 (by8 s i)) ((long1 (by8 s i)).toNat - 1)) = true → utf8 (bitsN s i (long1 (by8 s i)) ((long1 (by8 s i)).toNat - 1)) = (s.take (i + (long1 (by8 s i)).toNat)).drop i →
      K (.tup [.x (.int .i64 (bitsN s i (long1 (by8 s i)) ((long1 (by8 s i)).toNat - 1))), .x (.int .i64 (long1 (by8 s i)))]) st := fun hc h1 h2 => by
    unfold at1 at h
    simp only at h
    rw [if_neg hc, if_pos ⟨h1, h2⟩] at h; exact h
  have fin2 : ¬ (long1 (by8 s i) = 0 ∨ s.length < i + long1 (by8 s i)) → ¬ (goodRune (bitsN s i (long1 (by8 s i)) ((long1 (by8 s i)).toNat - 1)) = true ∧ utf8 (bitsN s i (long1 (by8 s i)) ((long1 (by8 s i)).toNat - 1)) = (s.take (i + (long1 (by8 s i)).toNat)).drop i) →
      K (.tup [.x (.int .i64 65533), .x (.int .i64 1)]) st := fun hc h1 => by
    unfold at1 at h
    simp only at h
    rw [if_neg hc, if_neg h1] at h; exact h
  have hl4 : long1 (by8 s i) = 0 ∨ (1 ≤ long1 (by8 s i) ∧ long1 (by8 s i) ≤ 4) := by
    rcases long1_cases (by8 s i) hb with h | h | h | h | h | h <;> omega
  generalize hl : long1 (by8 s i) = l at *
  rcases hl4 with rfl | hl4
  · simp -dsimp -implicitDefEqProofs +contextual (maxSteps := 3000000) (disch := omega) only [go_sem, ↓reduceIte, reduceCtorEq, Nat.reduceEqDiff, Nat.reduceAdd, Nat.reduceSub, Nat.reduceMul, Nat.reduceLeDiff, Nat.reduceBEq, Int.reduceToNat, Int.reduceNeg, Int.reduceEq, Int.reduceLT, Int.reduceLE, Int.reduceAdd, Int.reduceSub, Int.reduceMul, Int.reduceBEq, Int.reduceBNe, Int.reduceGT, Int.reduceGE, beq_self_eq_true, bne_self_eq_false, by8_eq, hl]
    exact Fin.pure0 rfl (fin0 (.inl rfl))
  have h0 : (l == 0) = false := by simp; omega
  simp -dsimp -implicitDefEqProofs +contextual (maxSteps := 3000000) (disch := omega) only [go_sem, ↓reduceIte, reduceCtorEq, Nat.reduceEqDiff, Nat.reduceAdd, Nat.reduceSub, Nat.reduceMul, Nat.reduceLeDiff, Nat.reduceBEq, Int.reduceToNat, Int.reduceNeg, Int.reduceEq, Int.reduceLT, Int.reduceLE, Int.reduceAdd, Int.reduceSub, Int.reduceMul, Int.reduceBEq, Int.reduceBNe, Int.reduceGT, Int.reduceGE, beq_self_eq_true, bne_self_eq_false, by8_eq, hl, h0]
  simp (disch := omega) only [wrap_i64, IntWalk.u8_in, Int.tdiv_eq_ediv_of_nonneg, Int.tmod_eq_emod_of_nonneg]
  refine gcase.dec (fun hlt => Fin.pure0 rfl (fin0 (.inr (by omega)))) (fun hlt => ⟨by omega, by omega, ?_⟩)
  simp only [← and_assoc]
  refine gcase_loop (fun ρ => lk ρ 0 = .x (.string (bytes s)) ∧ lk ρ 1 = .x (.int .i64 i) ∧ lk ρ 6 = .x (.int .i64 l) ∧ lk ρ 7 = .x (.int .i64 (bits1 s i l)) ∧ lk ρ 8 = .x (.int .i64 1)) (fun h1 => ?_) (fun h1 => ?_) (fun ρ hJ => ?_)
  · have h1 : 2 ≤ l := by have := h1; simp at this; omega
    have e : IntKind.i64.wrap (1 * 2 ^ min (IntKind.u64.wrap (7 - l)).toNat 64) = 2 ^ (7 - l).toNat := by
      obtain rfl | rfl | rfl : l = 2 ∨ l = 3 ∨ l = 4 := by omega
      all_goals rfl
    have e1 : IntKind.i64.wrap (7 - l) = 7 - l := wrap_i64 (by omega)
    have e2 : IntKind.i64.wrap (by8 s i) = by8 s i := wrap_i64 (by omega)
    have e3 : (2 : Int) ^ (7 - l).toNat ≠ 0 := by
      have : (0 : Int) < 2 ^ (7 - l).toNat := Int.pow_pos (by omega)
      omega
    have e4 : (by8 s i).tmod (2 ^ (7 - l).toNat) = bits1 s i l := by
      rw [Int.tmod_eq_emod_of_nonneg hb.1]; unfold bits1; rw [if_pos (by omega)]
    simp -dsimp -implicitDefEqProofs +contextual (maxSteps := 3000000) (disch := omega) only [go_sem, ↓reduceIte, reduceCtorEq, Nat.reduceEqDiff, Nat.reduceAdd, Nat.reduceSub, Nat.reduceMul, Nat.reduceLeDiff, Nat.reduceBEq, Int.reduceToNat, Int.reduceNeg, Int.reduceEq, Int.reduceLT, Int.reduceLE, Int.reduceAdd, Int.reduceSub, Int.reduceMul, Int.reduceBEq, Int.reduceBNe, Int.reduceGT, Int.reduceGE, beq_self_eq_true, bne_self_eq_false, e1, e2, e, e3, e4]
    exact ⟨by omega, by omega⟩
  · have h1 : ¬ l > 1 := by have := h1; simpa using this
    have e2 : IntKind.i64.wrap (by8 s i) = by8 s i := wrap_i64 (by omega)
    simp -dsimp -implicitDefEqProofs +contextual (maxSteps := 3000000) (disch := omega) only [go_sem, ↓reduceIte, reduceCtorEq, Nat.reduceEqDiff, Nat.reduceAdd, Nat.reduceSub, Nat.reduceMul, Nat.reduceLeDiff, Nat.reduceBEq, Int.reduceToNat, Int.reduceNeg, Int.reduceEq, Int.reduceLT, Int.reduceLE, Int.reduceAdd, Int.reduceSub, Int.reduceMul, Int.reduceBEq, Int.reduceBNe, Int.reduceGT, Int.reduceGE, beq_self_eq_true, bne_self_eq_false, e2]
    unfold bits1
    rw [if_neg h1]
  obtain ⟨h0', h1', h6', h7', h8'⟩ := hJ
  refine LoopC.intro (fun n ρ st' => ∃ k : Nat, n = l.toNat - k ∧ 1 ≤ k ∧ k ≤ l.toNat ∧ st' = st ∧ lk ρ 0 = .x (.string (bytes s)) ∧ lk ρ 1 = .x (.int .i64 i) ∧ lk ρ 6 = .x (.int .i64 l) ∧ lk ρ 7 = .x (.int .i64 (bitsN s i l (k - 1))) ∧ lk ρ 8 = .x (.int .i64 k)) (l.toNat - 1) (Weak.refl ⟨1, rfl, by omega, by omega, rfl, h0', h1', h6', h7', h8'⟩) ?_
  rintro n ρ st' ⟨k, rfl, hk1, hk2, rfl, g0, g1, g6, g7, g8⟩
  have hbk := bitsN_bd s i l hl4 (k - 1)
  have hbk2 : bitsN s i l (k - 1) ≤ 67108864 := by
    have : (64 : Int) ^ (k - 1) ≤ 262144 := by
      have : k - 1 = 0 ∨ k - 1 = 1 ∨ k - 1 = 2 ∨ k - 1 = 3 := by omega
      rcases this with h | h | h | h <;> rw [h] <;> decide
    omega
  simp -dsimp -implicitDefEqProofs +contextual (maxSteps := 3000000) (disch := omega) only [go_sem, ↓reduceIte, reduceCtorEq, Nat.reduceEqDiff, Nat.reduceAdd, Nat.reduceSub, Nat.reduceMul, Nat.reduceLeDiff, Nat.reduceBEq, Int.reduceToNat, Int.reduceNeg, Int.reduceEq, Int.reduceLT, Int.reduceLE, Int.reduceAdd, Int.reduceSub, Int.reduceMul, Int.reduceBEq, Int.reduceBNe, Int.reduceGT, Int.reduceGE, beq_self_eq_true, bne_self_eq_false, g0, g1, g6, g7, g8]
  refine gcase.dec (fun hlt => ?_) (fun hge => ?_)
  · have hbb := by8_bd s (i + k)
    have e1 : IntKind.i64.wrap ((i : Int) + k) = ((i + k : Nat) : Int) := by rw [wrap_i64 (by omega)]; omega
    simp -dsimp -implicitDefEqProofs +contextual (maxSteps := 3000000) (disch := omega) only [go_sem, ↓reduceIte, reduceCtorEq, Nat.reduceEqDiff, Nat.reduceAdd, Nat.reduceSub, Nat.reduceMul, Nat.reduceLeDiff, Nat.reduceBEq, Int.reduceToNat, Int.reduceNeg, Int.reduceEq, Int.reduceLT, Int.reduceLE, Int.reduceAdd, Int.reduceSub, Int.reduceMul, Int.reduceBEq, Int.reduceBNe, Int.reduceGT, Int.reduceGE, beq_self_eq_true, bne_self_eq_false, e1, by8_eq]
    simp (disch := omega) only [wrap_i64, IntWalk.u8_in, Int.tdiv_eq_ediv_of_nonneg, Int.tmod_eq_emod_of_nonneg]
    refine ⟨by omega, by omega, loopE.go (l.toNat - (k + 1)) (by omega) (Weak.refl ⟨k + 1, rfl, by omega, by omega, rfl, ?_⟩)⟩
    simp -dsimp -implicitDefEqProofs +contextual (maxSteps := 3000000) (disch := omega) only [go_sem, ↓reduceIte, reduceCtorEq, Nat.reduceEqDiff, Nat.reduceAdd, Nat.reduceSub, Nat.reduceMul, Nat.reduceLeDiff, Nat.reduceBEq, Int.reduceToNat, Int.reduceNeg, Int.reduceEq, Int.reduceLT, Int.reduceLE, Int.reduceAdd, Int.reduceSub, Int.reduceMul, Int.reduceBEq, Int.reduceBNe, Int.reduceGT, Int.reduceGE, beq_self_eq_true, bne_self_eq_false, g0, g1, g6]
    have e3 : bitsN s i l k = bitsN s i l (k - 1) * 64 + by8 s (i + k) % 64 := by
      obtain ⟨j, rfl⟩ : ∃ j, k = j + 1 := ⟨k - 1, by omega⟩
      rfl
    refine ⟨?_, by simp⟩
    rw [show k + 1 - 1 = k by omega, e3]
  · have hk : k = l.toNat := by omega
    subst hk
    have hc : ¬ (l = 0 ∨ (s.length : Int) < i + l) := by omega
    have e1 : IntKind.i64.wrap ((i : Int) + l) = i + l := wrap_i64 (by omega)
    refine oneH.go _ (s_GoodRune' _ ⟨rfl, rfl⟩) ?_
    cases hg : goodRune (bitsN s i l (l.toNat - 1)) with
    | false =>
      simp -dsimp -implicitDefEqProofs +contextual (maxSteps := 3000000) (disch := omega) only [go_sem, ↓reduceIte, reduceCtorEq, Nat.reduceEqDiff, Nat.reduceAdd, Nat.reduceSub, Nat.reduceMul, Nat.reduceLeDiff, Nat.reduceBEq, Int.reduceToNat, Int.reduceNeg, Int.reduceEq, Int.reduceLT, Int.reduceLE, Int.reduceAdd, Int.reduceSub, Int.reduceMul, Int.reduceBEq, Int.reduceBNe, Int.reduceGT, Int.reduceGE, beq_self_eq_true, bne_self_eq_false, g0, g1, g6, g7]
      exact Fin.pure0 rfl (fin2 hc (fun h => by rw [hg] at h; cases h.1))
    | true =>
      simp -dsimp -implicitDefEqProofs +contextual (maxSteps := 3000000) (disch := omega) only [go_sem, ↓reduceIte, reduceCtorEq, Nat.reduceEqDiff, Nat.reduceAdd, Nat.reduceSub, Nat.reduceMul, Nat.reduceLeDiff, Nat.reduceBEq, Int.reduceToNat, Int.reduceNeg, Int.reduceEq, Int.reduceLT, Int.reduceLE, Int.reduceAdd, Int.reduceSub, Int.reduceMul, Int.reduceBEq, Int.reduceBNe, Int.reduceGT, Int.reduceGE, beq_self_eq_true, bne_self_eq_false, g0, g1, g6, g7]
      refine oneH.go _ (s_l1Utf8 _ hg ⟨rfl, rfl⟩) ?_
      simp -dsimp -implicitDefEqProofs +contextual (maxSteps := 3000000) (disch := omega) only [go_sem, ↓reduceIte, reduceCtorEq, Nat.reduceEqDiff, Nat.reduceAdd, Nat.reduceSub, Nat.reduceMul, Nat.reduceLeDiff, Nat.reduceBEq, Int.reduceToNat, Int.reduceNeg, Int.reduceEq, Int.reduceLT, Int.reduceLE, Int.reduceAdd, Int.reduceSub, Int.reduceMul, Int.reduceBEq, Int.reduceBNe, Int.reduceGT, Int.reduceGE, beq_self_eq_true, bne_self_eq_false, g0, g1, g6, g7, e1, bytes_extract, Int.toNat_natCast]
      have e2 : (((i : Int) + l)).toNat = i + l.toNat := by omega
      rw [e2]
      refine ⟨by omega, by omega, by omega, fun h1 => Fin.pure0 rfl (fin1 hc hg (by simpa using h1)), fun h1 => Fin.pure0 rfl (fin2 hc (fun h => by rw [h.2] at h1; simp at h1))⟩


theorem and7 (x : Nat) (h : x ≤ 255) : IntKind.i64.wrap (bitsV .and .u8 (x : Int) 7) = ((x % 8 : Nat) : Int) := by
  have key : ∀ y : _root_.Fin 256, (BitVec.ofNat 8 y.1 &&& BitVec.ofInt 8 7).toNat = y.1 % 8 := by decide +kernel
  have := key ⟨x, by omega⟩
  have e : bitsV .and .u8 (x : Int) 7 = ((x % 8 : Nat) : Int) := by
    show IntKind.u8.wrap ((BitVec.ofInt 8 (x : Int) &&& BitVec.ofInt 8 7).toNat : Int) = _
    rw [BitVec.ofInt_natCast, this, IntWalk.u8_in _ (by omega)]
  rw [e, wrap_i64 (by omega)]

theorem s_FullRune (s : List UInt8) (hs : s.length ≤ 4611686018427387904) {st : Store} {K : V → Store → Prop} (h : K (.x (.bool (fullRune s))) st) : Spec Proofs.Tryd.prog 65 [.x (.string (bytes s))] st K := by
  have b0 := by8_bd s 0
  have b1 := by8_bd s 1
  have b2 := by8_bd s 2
  refine Spec.of_fd fd_unicode_utf8_FullRuneInString rfl ?_
  have g0 : glk globs 0 = some firstV := rfl
  have g1 : glk globs 1 = some accV := rfl
  simp -dsimp -implicitDefEqProofs +contextual (maxSteps := 3000000) (disch := omega) only [go_sem, ↓reduceIte, reduceCtorEq, Nat.reduceEqDiff, Nat.reduceAdd, Nat.reduceSub, Nat.reduceMul, Nat.reduceLeDiff, Nat.reduceBEq, Int.reduceToNat, Int.reduceNeg, Int.reduceEq, Int.reduceLT, Int.reduceLE, Int.reduceAdd, Int.reduceSub, Int.reduceMul, Int.reduceBEq, Int.reduceBNe, Int.reduceGT, Int.reduceGE, beq_self_eq_true, bne_self_eq_false, c_unicode_utf8_FullRuneInString, g0, g1, firstV, accV, by8_eq]
  have hx : firstB (by8 s 0).toNat ≤ 255 := by
    rcases firstB_cases (by8 s 0).toNat (by omega) with h | h | h | h | h | h | h | h | h | h <;> omega
  have e2 : ((firstB (by8 s 0).toNat : Nat) : Int).fdiv (2 ^ min 4 8) = ((firstB (by8 s 0).toNat / 16 : Nat) : Int) := by
    rw [show (2 : Int) ^ min 4 8 = 16 from rfl, Int.fdiv_eq_ediv_of_nonneg _ (by omega)]; omega
  have e1 := and7 _ hx
  have hT : fullRune s = true → K (.x (.bool true)) st := fun e => by rw [e] at h; exact h
  have hF : fullRune s = false → K (.x (.bool false)) st := fun e => by rw [e] at h; exact h
  rw [e1, e2]
  unfold fullRune at hT hF
  generalize firstB (by8 s 0).toNat = x at *
  have ha0 : ((x / 16 : Nat) : Int).toNat * 2 = 2 * (x / 16) := by omega
  rw [ha0]
  generalize hlo : accB (2 * (x / 16)) = lo at *
  generalize hhi : accB (2 * (x / 16) + 1) = hi at *
  simp only at hT hF
  (repeat' (first | omega | exact rfl | (refine Fin.pure0 rfl ?_) | (refine Fin.pure (Base.refl _) rfl ?_) | (refine gcase.mk (fun _ => ?_) (fun _ => ?_)) | (refine And.intro ?_ ?_)))
  all_goals simp only [beq_iff_eq, beq_eq_false_iff_ne, decide_eq_true_eq, decide_eq_false_iff_not] at *
  all_goals (first | omega | refine hT ?_ | refine hF ?_)
  all_goals
    repeat' split
    all_goals first | rfl | (exfalso; omega)


theorem Weak.drop {st0 l : Store} {J : Env → Store → Prop} {ρ : Env} (h : Weak st0 J (cleanE st0.length ρ) st0) : Weak st0 J ρ (st0 ++ l) := by
  have := Weak.trunc (st0 := st0) (st1 := st0) (l := []) (l' := l) (J := J) (ρ := ρ) (Base.refl _) (fun b hb => by cases hb) (by simpa using h)
  simpa using this

attribute [go_sem] lk_cleanE cl

theorem s_l1Begun (s : List UInt8) (hs : s.length ≤ 4611686018427387904) {st : Store} {K : V → Store → Prop} (h : K (.x (.bool (begun s))) st) : Spec Proofs.Tryd.prog 41 [.x (.string (bytes s))] st K := by
  have b0 := by8_bd s 0
  refine Spec.of_fd fd_spec_l1Begun rfl ?_
  simp -dsimp -implicitDefEqProofs +contextual (maxSteps := 3000000) (disch := omega) only [go_sem, ↓reduceIte, reduceCtorEq, Nat.reduceEqDiff, Nat.reduceAdd, Nat.reduceSub, Nat.reduceMul, Nat.reduceLeDiff, Nat.reduceBEq, Int.reduceToNat, Int.reduceNeg, Int.reduceEq, Int.reduceLT, Int.reduceLE, Int.reduceAdd, Int.reduceSub, Int.reduceMul, Int.reduceBEq, Int.reduceBNe, Int.reduceGT, Int.reduceGE, beq_self_eq_true, bne_self_eq_false, c_spec_l1Begun, by8_eq]
  have hF : ¬ (0 < s.length ∧ s.length ≤ 3 ∧ (s.length : Int) < long1 (by8 s 0)) → K (.x (.bool false)) st := fun hn => by
    have : begun s = false := by
      cases hb : begun s with
      | false => rfl
      | true => exact absurd ((begun_iff s).1 hb).1 hn
    rw [this] at h; exact h
  refine ⟨fun h1 => Fin.pure0 rfl (hF (by rw [beq_iff_eq] at h1; omega)), fun h1 => gcase.dec (fun h2 => Fin.pure0 rfl (hF (by omega))) (fun h2 => ?_)⟩
  have hpos : 0 < s.length := by rw [beq_eq_false_iff_ne] at h1; omega
  refine ⟨by omega, s_l1Long _ ?_⟩
  have hl4 : 0 ≤ long1 (by8 s 0) ∧ long1 (by8 s 0) ≤ 4 := by
    rcases long1_cases (by8 s 0) b0 with h | h | h | h | h | h <;> omega
  have hT : (s.length : Int) < long1 (by8 s 0) → (∃ b : Nat, b < 64 ∧ (at1 (s ++ List.replicate ((long1 (by8 s 0)).toNat - s.length) (u8 (128 + b))) 0).2 > 1) → K (.x (.bool true)) st := fun hl hx => by
    rw [(begun_iff s).2 ⟨⟨hpos, by omega, hl⟩, hx⟩] at h; exact h
  have hN : (∀ b : Nat, b < 64 → ¬ (at1 (s ++ List.replicate ((long1 (by8 s 0)).toNat - s.length) (u8 (128 + b))) 0).2 > 1) → K (.x (.bool false)) st := fun hx => by
    have : begun s = false := by
      cases hb : begun s with
      | false => rfl
      | true => obtain ⟨_, b, hb, h'⟩ := (begun_iff s).1 hb; exact absurd h' (hx b hb)
    rw [this] at h; exact h
  generalize hl : long1 (by8 s 0) = l at *
  have h2' : decide ((s.length : Int) > 3) = false := by simpa using h2
  simp -dsimp -implicitDefEqProofs +contextual (maxSteps := 3000000) (disch := omega) only [go_sem, ↓reduceIte, reduceCtorEq, Nat.reduceEqDiff, Nat.reduceAdd, Nat.reduceSub, Nat.reduceMul, Nat.reduceLeDiff, Nat.reduceBEq, Int.reduceToNat, Int.reduceNeg, Int.reduceEq, Int.reduceLT, Int.reduceLE, Int.reduceAdd, Int.reduceSub, Int.reduceMul, Int.reduceBEq, Int.reduceBNe, Int.reduceGT, Int.reduceGE, beq_self_eq_true, bne_self_eq_false, h2']
  refine gcase.dec (fun h3 => Fin.pure0 rfl (hF (by omega))) (fun h3 => ?_)
  refine LoopC.intro (fun n ρ st' => ∃ k : Nat, n = 64 - k ∧ k ≤ 64 ∧ st' = st ∧ lk ρ 0 = .x (.string (bytes s)) ∧ lk ρ 3 = .x (.int .i64 (128 + k)) ∧ ∀ b : Nat, b < k → ¬ (at1 (s ++ List.replicate (l.toNat - s.length) (u8 (128 + b))) 0).2 > 1) 64 (Weak.refl ⟨0, rfl, by omega, rfl, ?_⟩) ?_
  · simp -dsimp -implicitDefEqProofs +contextual (maxSteps := 3000000) (disch := omega) only [go_sem, ↓reduceIte, reduceCtorEq, Nat.reduceEqDiff, Nat.reduceAdd, Nat.reduceSub, Nat.reduceMul, Nat.reduceLeDiff, Nat.reduceBEq, Int.reduceToNat, Int.reduceNeg, Int.reduceEq, Int.reduceLT, Int.reduceLE, Int.reduceAdd, Int.reduceSub, Int.reduceMul, Int.reduceBEq, Int.reduceBNe, Int.reduceGT, Int.reduceGE, beq_self_eq_true, bne_self_eq_false]
    exact ⟨by simp, fun b hb => by omega⟩
  rintro n ρ st' ⟨k, rfl, hk, rfl, g0, g3, hno⟩
  simp -dsimp -implicitDefEqProofs +contextual (maxSteps := 3000000) (disch := omega) only [go_sem, ↓reduceIte, reduceCtorEq, Nat.reduceEqDiff, Nat.reduceAdd, Nat.reduceSub, Nat.reduceMul, Nat.reduceLeDiff, Nat.reduceBEq, Int.reduceToNat, Int.reduceNeg, Int.reduceEq, Int.reduceLT, Int.reduceLE, Int.reduceAdd, Int.reduceSub, Int.reduceMul, Int.reduceBEq, Int.reduceBNe, Int.reduceGT, Int.reduceGE, beq_self_eq_true, bne_self_eq_false, g0, g3]
  refine gcase.dec (fun hlt => ?_) (fun hge => Fin.pure0 rfl (hN fun b hb => hno b (by omega)))
  refine LoopC.intro (fun n ρ st'' => ∃ j : Nat, n = l.toNat - s.length - j ∧ j ≤ l.toNat - s.length ∧ st'' = st' ∧ lk ρ 0 = .x (.string (bytes s)) ∧ lk ρ 3 = .x (.int .i64 (128 + k)) ∧ lk ρ 4 = .x (.string (bytes (s ++ List.replicate j (u8 (128 + k)))))) (l.toNat - s.length) (Weak.refl ⟨0, rfl, by omega, rfl, ?_⟩) ?_
  · simp -dsimp -implicitDefEqProofs +contextual (maxSteps := 3000000) (disch := omega) only [go_sem, ↓reduceIte, reduceCtorEq, Nat.reduceEqDiff, Nat.reduceAdd, Nat.reduceSub, Nat.reduceMul, Nat.reduceLeDiff, Nat.reduceBEq, Int.reduceToNat, Int.reduceNeg, Int.reduceEq, Int.reduceLT, Int.reduceLE, Int.reduceAdd, Int.reduceSub, Int.reduceMul, Int.reduceBEq, Int.reduceBNe, Int.reduceGT, Int.reduceGE, beq_self_eq_true, bne_self_eq_false, g0, g3]
  rintro n ρ st'' ⟨j, rfl, hj, rfl, f0, f3, f4⟩
  simp -dsimp -implicitDefEqProofs +contextual (maxSteps := 3000000) (disch := omega) only [go_sem, ↓reduceIte, reduceCtorEq, Nat.reduceEqDiff, Nat.reduceAdd, Nat.reduceSub, Nat.reduceMul, Nat.reduceLeDiff, Nat.reduceBEq, Int.reduceToNat, Int.reduceNeg, Int.reduceEq, Int.reduceLT, Int.reduceLE, Int.reduceAdd, Int.reduceSub, Int.reduceMul, Int.reduceBEq, Int.reduceBNe, Int.reduceGT, Int.reduceGE, beq_self_eq_true, bne_self_eq_false, f0, f3, f4, by8_eq]
  refine ⟨by omega, s_l1Long _ ?_⟩
  rw [hl]
  simp -dsimp -implicitDefEqProofs +contextual (maxSteps := 3000000) (disch := omega) only [go_sem, ↓reduceIte, reduceCtorEq, Nat.reduceEqDiff, Nat.reduceAdd, Nat.reduceSub, Nat.reduceMul, Nat.reduceLeDiff, Nat.reduceBEq, Int.reduceToNat, Int.reduceNeg, Int.reduceEq, Int.reduceLT, Int.reduceLE, Int.reduceAdd, Int.reduceSub, Int.reduceMul, Int.reduceBEq, Int.reduceBNe, Int.reduceGT, Int.reduceGE, beq_self_eq_true, bne_self_eq_false, f0, f3, f4]
  have hk64 : k < 64 := by omega
  have ew : IntKind.u8.wrap (128 + (k : Int)) = 128 + k := IntWalk.u8_in _ (by omega)
  have er : (List.replicate j (u8 (128 + (k : Int)))).length = j := List.length_replicate
  rw [er]
  refine gcase.dec (fun hlt2 => ?_) (fun hge2 => ?_)
  · refine ⟨by simp; omega, loopE.go (l.toNat - s.length - (j + 1)) (by omega) (Weak.drop (Weak.refl ⟨j + 1, rfl, by omega, rfl, ?_⟩))⟩
    simp -dsimp -implicitDefEqProofs +contextual (maxSteps := 3000000) (disch := omega) only [go_sem, ↓reduceIte, reduceCtorEq, Nat.reduceEqDiff, Nat.reduceAdd, Nat.reduceSub, Nat.reduceMul, Nat.reduceLeDiff, Nat.reduceBEq, Int.reduceToNat, Int.reduceNeg, Int.reduceEq, Int.reduceLT, Int.reduceLE, Int.reduceAdd, Int.reduceSub, Int.reduceMul, Int.reduceBEq, Int.reduceBNe, Int.reduceGT, Int.reduceGE, beq_self_eq_true, bne_self_eq_false, f0, f3, f4, ew]
    have e1 : (⟨#[UInt8.ofNat (128 + (k : Int)).toNat]⟩ : ByteArray) = bytes [u8 (128 + (k : Int))] := rfl
    rw [e1, bytes_append, List.append_assoc, ← List.replicate_succ']
    rfl
  · have hj' : j = l.toNat - s.length := by omega
    have hlen : (s ++ List.replicate j (u8 (128 + (k : Int)))).length = l.toNat := by simp; omega
    refine s_l1At _ 0 (by omega) (by omega) ?_
    simp -dsimp -implicitDefEqProofs +contextual (maxSteps := 3000000) (disch := omega) only [go_sem, ↓reduceIte, reduceCtorEq, Nat.reduceEqDiff, Nat.reduceAdd, Nat.reduceSub, Nat.reduceMul, Nat.reduceLeDiff, Nat.reduceBEq, Int.reduceToNat, Int.reduceNeg, Int.reduceEq, Int.reduceLT, Int.reduceLE, Int.reduceAdd, Int.reduceSub, Int.reduceMul, Int.reduceBEq, Int.reduceBNe, Int.reduceGT, Int.reduceGE, beq_self_eq_true, bne_self_eq_false, f0, f3, f4]
    subst hj'
    refine gcase.dec (fun h5 => Fin.pure0 rfl (hT (by omega) ⟨k, hk64, h5⟩)) (fun h5 => ?_)
    refine loopE.go (64 - (k + 1)) (by omega) (Weak.refl ⟨k + 1, rfl, by omega, rfl, ?_⟩)
    simp -dsimp -implicitDefEqProofs +contextual (maxSteps := 3000000) (disch := omega) only [go_sem, ↓reduceIte, reduceCtorEq, Nat.reduceEqDiff, Nat.reduceAdd, Nat.reduceSub, Nat.reduceMul, Nat.reduceLeDiff, Nat.reduceBEq, Int.reduceToNat, Int.reduceNeg, Int.reduceEq, Int.reduceLT, Int.reduceLE, Int.reduceAdd, Int.reduceSub, Int.reduceMul, Int.reduceBEq, Int.reduceBNe, Int.reduceGT, Int.reduceGE, beq_self_eq_true, bne_self_eq_false, f0, f3]
    simp (disch := omega) only [wrap_i64, IntWalk.u8_in, Int.tdiv_eq_ediv_of_nonneg, Int.tmod_eq_emod_of_nonneg]
    refine ⟨by simp; omega, fun b hb => ?_⟩
    by_cases hbk : b = k
    · subst hbk; exact h5
    · exact hno b (by omega)

theorem s_IsBegun (s : List UInt8) (hs : s.length ≤ 4611686018427387904) {st : Store} {K : V → Store → Prop} (h : K (.x (.bool (!s.isEmpty && begun s))) st) : Spec Proofs.Tryd.prog 49 [.x (.string (bytes s))] st K := by
  refine Spec.of_fd fd_impl_IsBegun rfl ?_
  simp -dsimp -implicitDefEqProofs +contextual (maxSteps := 3000000) (disch := omega) only [go_sem, ↓reduceIte, reduceCtorEq, Nat.reduceEqDiff, Nat.reduceAdd, Nat.reduceSub, Nat.reduceMul, Nat.reduceLeDiff, Nat.reduceBEq, Int.reduceToNat, Int.reduceNeg, Int.reduceEq, Int.reduceLT, Int.reduceLE, Int.reduceAdd, Int.reduceSub, Int.reduceMul, Int.reduceBEq, Int.reduceBNe, Int.reduceGT, Int.reduceGE, beq_self_eq_true, bne_self_eq_false, c_impl_IsBegun]
  cases s with
  | nil =>
    simp -dsimp -implicitDefEqProofs +contextual (maxSteps := 3000000) (disch := omega) only [go_sem, ↓reduceIte, reduceCtorEq, Nat.reduceEqDiff, Nat.reduceAdd, Nat.reduceSub, Nat.reduceMul, Nat.reduceLeDiff, Nat.reduceBEq, Int.reduceToNat, Int.reduceNeg, Int.reduceEq, Int.reduceLT, Int.reduceLE, Int.reduceAdd, Int.reduceSub, Int.reduceMul, Int.reduceBEq, Int.reduceBNe, Int.reduceGT, Int.reduceGE, beq_self_eq_true, bne_self_eq_false]
    exact Fin.pure0 rfl h
  | cons a r =>
    simp -dsimp -implicitDefEqProofs +contextual (maxSteps := 3000000) (disch := omega) only [go_sem, ↓reduceIte, reduceCtorEq, Nat.reduceEqDiff, Nat.reduceAdd, Nat.reduceSub, Nat.reduceMul, Nat.reduceLeDiff, Nat.reduceBEq, Int.reduceToNat, Int.reduceNeg, Int.reduceEq, Int.reduceLT, Int.reduceLE, Int.reduceAdd, Int.reduceSub, Int.reduceMul, Int.reduceBEq, Int.reduceBNe, Int.reduceGT, Int.reduceGE, beq_self_eq_true, bne_self_eq_false]
    refine s_FullRune _ hs ?_
    simp -dsimp -implicitDefEqProofs +contextual (maxSteps := 3000000) (disch := omega) only [go_sem, ↓reduceIte, reduceCtorEq, Nat.reduceEqDiff, Nat.reduceAdd, Nat.reduceSub, Nat.reduceMul, Nat.reduceLeDiff, Nat.reduceBEq, Int.reduceToNat, Int.reduceNeg, Int.reduceEq, Int.reduceLT, Int.reduceLE, Int.reduceAdd, Int.reduceSub, Int.reduceMul, Int.reduceBEq, Int.reduceBNe, Int.reduceGT, Int.reduceGE, beq_self_eq_true, bne_self_eq_false]
    refine Fin.pure0 rfl ?_
    rw [begun_eq (by simp)] at h
    exact h

end Go.VS
