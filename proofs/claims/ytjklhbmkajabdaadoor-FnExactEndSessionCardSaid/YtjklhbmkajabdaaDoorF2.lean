/- Contracts: small functions. -/
import Derived.Test.YtjklhbmkajabdaaDoorF1
set_option linter.all false
namespace Go.VS
open Go Go.RowKit
set_option maxRecDepth 10000

theorem s_l1In (n lo hi : Int) {st : Store} {K : V → Store → Prop} (h : K (.x (.bool (inR n lo hi))) st) :
    Spec Proofs.Tryd.prog 40 [.x (.int .i64 n), .x (.int .i64 lo), .x (.int .i64 hi)] st K := by
  refine Spec.of_fd fd_spec_l1In rfl ?_
  simp -dsimp -implicitDefEqProofs +contextual (maxSteps := 3000000) (disch := omega) only [go_sem, ↓reduceIte, reduceCtorEq, Nat.reduceEqDiff, Nat.reduceAdd, Nat.reduceSub, Nat.reduceMul, Nat.reduceLeDiff, Nat.reduceBEq, Int.reduceToNat, Int.reduceNeg, Int.reduceEq, Int.reduceLT, Int.reduceLE, Int.reduceAdd, Int.reduceSub, Int.reduceMul, Int.reduceBEq, Int.reduceBNe, Int.reduceGT, Int.reduceGE, beq_self_eq_true, bne_self_eq_false, c_spec_l1In]
  refine gcase.dec (fun h1 => Fin.pure0 rfl ?_) (fun h1 => Fin.pure0 rfl ?_)
  · simpa [inR, h1] using h
  · simpa [inR, h1] using h

theorem s_GoodRune (r : Int) {st : Store} {K : V → Store → Prop} (h : K (.x (.bool (goodRune r))) st) : Spec Proofs.Tryd.prog 67 [.x (.int .i64 r)] st K := by
  refine Spec.of_fd fd_impl_GoodRune rfl ?_
  simp -dsimp -implicitDefEqProofs +contextual (maxSteps := 3000000) (disch := omega) only [go_sem, ↓reduceIte, reduceCtorEq, Nat.reduceEqDiff, Nat.reduceAdd, Nat.reduceSub, Nat.reduceMul, Nat.reduceLeDiff, Nat.reduceBEq, Int.reduceToNat, Int.reduceNeg, Int.reduceEq, Int.reduceLT, Int.reduceLE, Int.reduceAdd, Int.reduceSub, Int.reduceMul, Int.reduceBEq, Int.reduceBNe, Int.reduceGT, Int.reduceGE, beq_self_eq_true, bne_self_eq_false, c_impl_GoodRune]
  refine s_inRange _ _ _ ?_
  simp -dsimp -implicitDefEqProofs +contextual (maxSteps := 3000000) (disch := omega) only [go_sem, ↓reduceIte, reduceCtorEq, Nat.reduceEqDiff, Nat.reduceAdd, Nat.reduceSub, Nat.reduceMul, Nat.reduceLeDiff, Nat.reduceBEq, Int.reduceToNat, Int.reduceNeg, Int.reduceEq, Int.reduceLT, Int.reduceLE, Int.reduceAdd, Int.reduceSub, Int.reduceMul, Int.reduceBEq, Int.reduceBNe, Int.reduceGT, Int.reduceGE, beq_self_eq_true, bne_self_eq_false]
  refine ⟨fun h1 => s_inRange _ _ _ ?_, fun h1 => Fin.pure0 rfl ?_⟩
  · simp -dsimp -implicitDefEqProofs +contextual (maxSteps := 3000000) (disch := omega) only [go_sem, ↓reduceIte, reduceCtorEq, Nat.reduceEqDiff, Nat.reduceAdd, Nat.reduceSub, Nat.reduceMul, Nat.reduceLeDiff, Nat.reduceBEq, Int.reduceToNat, Int.reduceNeg, Int.reduceEq, Int.reduceLT, Int.reduceLE, Int.reduceAdd, Int.reduceSub, Int.reduceMul, Int.reduceBEq, Int.reduceBNe, Int.reduceGT, Int.reduceGE, beq_self_eq_true, bne_self_eq_false, h1]
    exact Fin.pure0 rfl (by simpa [goodRune, h1] using h)
  · simpa [goodRune, h1] using h

theorem s_GoodRune' (r : Int) {st : Store} {K : V → Store → Prop} (h : K (.x (.bool (goodRune r))) st) : Spec Proofs.Tryd.prog 61 [.x (.int .i64 r)] st K := by
  refine Spec.of_fd fd_spec_GoodRune rfl ?_
  simp -dsimp -implicitDefEqProofs +contextual (maxSteps := 3000000) (disch := omega) only [go_sem, ↓reduceIte, reduceCtorEq, Nat.reduceEqDiff, Nat.reduceAdd, Nat.reduceSub, Nat.reduceMul, Nat.reduceLeDiff, Nat.reduceBEq, Int.reduceToNat, Int.reduceNeg, Int.reduceEq, Int.reduceLT, Int.reduceLE, Int.reduceAdd, Int.reduceSub, Int.reduceMul, Int.reduceBEq, Int.reduceBNe, Int.reduceGT, Int.reduceGE, beq_self_eq_true, bne_self_eq_false, c_spec_GoodRune]
  refine s_l1In _ _ _ ?_
  simp -dsimp -implicitDefEqProofs +contextual (maxSteps := 3000000) (disch := omega) only [go_sem, ↓reduceIte, reduceCtorEq, Nat.reduceEqDiff, Nat.reduceAdd, Nat.reduceSub, Nat.reduceMul, Nat.reduceLeDiff, Nat.reduceBEq, Int.reduceToNat, Int.reduceNeg, Int.reduceEq, Int.reduceLT, Int.reduceLE, Int.reduceAdd, Int.reduceSub, Int.reduceMul, Int.reduceBEq, Int.reduceBNe, Int.reduceGT, Int.reduceGE, beq_self_eq_true, bne_self_eq_false]
  refine ⟨fun h1 => s_l1In _ _ _ ?_, fun h1 => Fin.pure0 rfl ?_⟩
  · simp -dsimp -implicitDefEqProofs +contextual (maxSteps := 3000000) (disch := omega) only [go_sem, ↓reduceIte, reduceCtorEq, Nat.reduceEqDiff, Nat.reduceAdd, Nat.reduceSub, Nat.reduceMul, Nat.reduceLeDiff, Nat.reduceBEq, Int.reduceToNat, Int.reduceNeg, Int.reduceEq, Int.reduceLT, Int.reduceLE, Int.reduceAdd, Int.reduceSub, Int.reduceMul, Int.reduceBEq, Int.reduceBNe, Int.reduceGT, Int.reduceGE, beq_self_eq_true, bne_self_eq_false, h1]
    exact Fin.pure0 rfl (by simpa [goodRune, h1] using h)
  · simpa [goodRune, h1] using h

theorem s_notRune (r : Int) {st : Store} {K : V → Store → Prop} (h : K (.x (.bool (!goodRune r))) st) : Spec Proofs.Tryd.prog 66 [.x (.int .i64 r)] st K := by
  refine Spec.of_fd fd_impl_areRunes_1 rfl ?_
  simp -dsimp -implicitDefEqProofs +contextual (maxSteps := 3000000) (disch := omega) only [go_sem, ↓reduceIte, reduceCtorEq, Nat.reduceEqDiff, Nat.reduceAdd, Nat.reduceSub, Nat.reduceMul, Nat.reduceLeDiff, Nat.reduceBEq, Int.reduceToNat, Int.reduceNeg, Int.reduceEq, Int.reduceLT, Int.reduceLE, Int.reduceAdd, Int.reduceSub, Int.reduceMul, Int.reduceBEq, Int.reduceBNe, Int.reduceGT, Int.reduceGE, beq_self_eq_true, bne_self_eq_false, c_impl_areRunes_1]
  refine s_GoodRune _ ?_
  simp -dsimp -implicitDefEqProofs +contextual (maxSteps := 3000000) (disch := omega) only [go_sem, ↓reduceIte, reduceCtorEq, Nat.reduceEqDiff, Nat.reduceAdd, Nat.reduceSub, Nat.reduceMul, Nat.reduceLeDiff, Nat.reduceBEq, Int.reduceToNat, Int.reduceNeg, Int.reduceEq, Int.reduceLT, Int.reduceLE, Int.reduceAdd, Int.reduceSub, Int.reduceMul, Int.reduceBEq, Int.reduceBNe, Int.reduceGT, Int.reduceGE, beq_self_eq_true, bne_self_eq_false]
  exact Fin.pure0 rfl h

theorem firstAt_ge (p : Int → Bool) : ∀ (xs : List Int) (i : Nat), decide (firstAt p xs i ≥ 0) = xs.any p
  | [], i => by simp [firstAt]
  | x :: r, i => by
    rw [firstAt, List.any_cons]
    by_cases h : p x = true
    · rw [if_pos h, h]; simp
    · rw [if_neg h, firstAt_ge p r (i + 1)]; simp [h]

theorem s_ContainsFunc (xs : List Int) (p : Int → Bool) (g : Nat) (hx : xs.length ≤ 4611686018427387904) (hg : ∀ (x : Int) (st : Store) (K : V → Store → Prop), K (.x (.bool (p x))) st → Spec Proofs.Tryd.prog g [.x (.int .i64 x)] st K)
    {st : Store} {K : V → Store → Prop} (h : K (.x (.bool (xs.any p))) st) : Spec Proofs.Tryd.prog 54 [V.ints xs, .fn (.func g) []] st K := by
  refine Spec.of_fd fd_slices_ContainsFunc_int_int rfl ?_
  simp -dsimp -implicitDefEqProofs +contextual (maxSteps := 3000000) (disch := omega) only [go_sem, ↓reduceIte, reduceCtorEq, Nat.reduceEqDiff, Nat.reduceAdd, Nat.reduceSub, Nat.reduceMul, Nat.reduceLeDiff, Nat.reduceBEq, Int.reduceToNat, Int.reduceNeg, Int.reduceEq, Int.reduceLT, Int.reduceLE, Int.reduceAdd, Int.reduceSub, Int.reduceMul, Int.reduceBEq, Int.reduceBNe, Int.reduceGT, Int.reduceGE, beq_self_eq_true, bne_self_eq_false, c_slices_ContainsFunc_int_int]
  refine s_IndexFunc xs p g hx hg ?_
  simp -dsimp -implicitDefEqProofs +contextual (maxSteps := 3000000) (disch := omega) only [go_sem, ↓reduceIte, reduceCtorEq, Nat.reduceEqDiff, Nat.reduceAdd, Nat.reduceSub, Nat.reduceMul, Nat.reduceLeDiff, Nat.reduceBEq, Int.reduceToNat, Int.reduceNeg, Int.reduceEq, Int.reduceLT, Int.reduceLE, Int.reduceAdd, Int.reduceSub, Int.reduceMul, Int.reduceBEq, Int.reduceBNe, Int.reduceGT, Int.reduceGE, beq_self_eq_true, bne_self_eq_false]
  exact Fin.pure0 rfl (by rw [firstAt_ge]; exact h)

theorem s_areRunes (xs : List Int) (n : Int) (hx : xs.length ≤ 4611686018427387904) {st : Store} {K : V → Store → Prop} (h : K (.x (.bool (decide ((xs.length : Int) ≤ n) && xs.all goodRune))) st) :
    Spec Proofs.Tryd.prog 53 [V.ints xs, .x (.int .i64 n)] st K := by
  refine Spec.of_fd fd_impl_areRunes rfl ?_
  simp -dsimp -implicitDefEqProofs +contextual (maxSteps := 3000000) (disch := omega) only [go_sem, ↓reduceIte, reduceCtorEq, Nat.reduceEqDiff, Nat.reduceAdd, Nat.reduceSub, Nat.reduceMul, Nat.reduceLeDiff, Nat.reduceBEq, Int.reduceToNat, Int.reduceNeg, Int.reduceEq, Int.reduceLT, Int.reduceLE, Int.reduceAdd, Int.reduceSub, Int.reduceMul, Int.reduceBEq, Int.reduceBNe, Int.reduceGT, Int.reduceGE, beq_self_eq_true, bne_self_eq_false, c_impl_areRunes, V.ints]
  refine gcase.dec (fun h1 => ?_) (fun h1 => Fin.pure0 rfl (by simpa [h1] using h))
  refine s_ContainsFunc xs (fun r => !goodRune r) _ hx (fun x st K h => s_notRune x h) ?_
  simp -dsimp -implicitDefEqProofs +contextual (maxSteps := 3000000) (disch := omega) only [go_sem, ↓reduceIte, reduceCtorEq, Nat.reduceEqDiff, Nat.reduceAdd, Nat.reduceSub, Nat.reduceMul, Nat.reduceLeDiff, Nat.reduceBEq, Int.reduceToNat, Int.reduceNeg, Int.reduceEq, Int.reduceLT, Int.reduceLE, Int.reduceAdd, Int.reduceSub, Int.reduceMul, Int.reduceBEq, Int.reduceBNe, Int.reduceGT, Int.reduceGE, beq_self_eq_true, bne_self_eq_false, h1]
  refine Fin.pure0 rfl ?_
  have : (!xs.any fun r => !goodRune r) = xs.all goodRune := by simp [List.all_eq_not_any_not]
  rw [this]
  simpa [h1] using h

end Go.VS
