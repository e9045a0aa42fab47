/- Contracts: loops over lists of numbers. -/
import Derived.Test.YtjklhbmkajabdaaDoorF2
set_option linter.all false
namespace Go.VS
open Go Go.RowKit
set_option maxRecDepth 10000

theorem drop_at {xs : List Int} {i : Nat} (h : i < xs.length) : xs.drop i = xs.getD i 0 :: xs.drop (i + 1) := by
  rw [List.drop_eq_getElem_cons h]; simp [h]
theorem take_at {xs : List Int} {i : Nat} (h : i < xs.length) : xs.take (i + 1) = xs.take i ++ [xs.getD i 0] := by
  rw [List.take_add_one]; simp [h]

theorem s_l1All (xs : List Int) (lo hi : Int) (hx : xs.length ≤ 4611686018427387904) {st : Store} {K : V → Store → Prop} (h : K (.x (.bool (xs.all fun n => inR n lo hi))) st) :
    Spec Proofs.Tryd.prog 45 [V.ints xs, .x (.int .i64 lo), .x (.int .i64 hi)] st K := by
  refine Spec.of_fd fd_spec_l1All rfl ?_
  simp -dsimp -implicitDefEqProofs +contextual (maxSteps := 3000000) (disch := omega) only [go_sem, ↓reduceIte, reduceCtorEq, Nat.reduceEqDiff, Nat.reduceAdd, Nat.reduceSub, Nat.reduceMul, Nat.reduceLeDiff, Nat.reduceBEq, Int.reduceToNat, Int.reduceNeg, Int.reduceEq, Int.reduceLT, Int.reduceLE, Int.reduceAdd, Int.reduceSub, Int.reduceMul, Int.reduceBEq, Int.reduceBNe, Int.reduceGT, Int.reduceGE, beq_self_eq_true, bne_self_eq_false, c_spec_l1All, V.ints]
  refine LoopC.intro (fun n ρ st' => ∃ i : Nat, n = xs.length - i ∧ i ≤ xs.length ∧ st' = st ∧ lk ρ 1 = .x (.int .i64 lo) ∧ lk ρ 2 = .x (.int .i64 hi) ∧ lk ρ 9 = .sl xs.length 1 (intsF xs) ∧ lk ρ 10 = .x (.int .i64 xs.length) ∧ lk ρ 11 = .x (.int .i64 i) ∧
    (xs.all fun n => inR n lo hi) = ((xs.drop i).all fun n => inR n lo hi)) xs.length (Weak.refl ⟨0, by simp [lk]⟩) ?_
  rintro n ρ st' ⟨i, rfl, hi', rfl, h1, h2, h9, h10, h11, hf⟩
  simp -dsimp -implicitDefEqProofs +contextual (maxSteps := 3000000) (disch := omega) only [go_sem, ↓reduceIte, reduceCtorEq, Nat.reduceEqDiff, Nat.reduceAdd, Nat.reduceSub, Nat.reduceMul, Nat.reduceLeDiff, Nat.reduceBEq, Int.reduceToNat, Int.reduceNeg, Int.reduceEq, Int.reduceLT, Int.reduceLE, Int.reduceAdd, Int.reduceSub, Int.reduceMul, Int.reduceBEq, Int.reduceBNe, Int.reduceGT, Int.reduceGE, beq_self_eq_true, bne_self_eq_false, h1, h2, h9, h10, h11]
  refine gcase.dec (fun hlt => ?_) (fun hge => ?_)
  · have hlt' : i < xs.length := by omega
    rw [intsF_lt hlt']
    rw [drop_at hlt', List.all_cons] at hf
    refine ⟨by omega, hlt, by omega, ?_⟩
    refine s_l1In _ _ _ ?_
    simp -dsimp -implicitDefEqProofs +contextual (maxSteps := 3000000) (disch := omega) only [go_sem, ↓reduceIte, reduceCtorEq, Nat.reduceEqDiff, Nat.reduceAdd, Nat.reduceSub, Nat.reduceMul, Nat.reduceLeDiff, Nat.reduceBEq, Int.reduceToNat, Int.reduceNeg, Int.reduceEq, Int.reduceLT, Int.reduceLE, Int.reduceAdd, Int.reduceSub, Int.reduceMul, Int.reduceBEq, Int.reduceBNe, Int.reduceGT, Int.reduceGE, beq_self_eq_true, bne_self_eq_false]
    refine ⟨fun hp => ?_, fun hp => Fin.pure0 rfl ?_⟩
    · simp -dsimp -implicitDefEqProofs +contextual (maxSteps := 3000000) (disch := omega) only [go_sem, ↓reduceIte, reduceCtorEq, Nat.reduceEqDiff, Nat.reduceAdd, Nat.reduceSub, Nat.reduceMul, Nat.reduceLeDiff, Nat.reduceBEq, Int.reduceToNat, Int.reduceNeg, Int.reduceEq, Int.reduceLT, Int.reduceLE, Int.reduceAdd, Int.reduceSub, Int.reduceMul, Int.reduceBEq, Int.reduceBNe, Int.reduceGT, Int.reduceGE, beq_self_eq_true, bne_self_eq_false, h11, wrap_i64]
      refine loopE.go (xs.length - (i + 1)) (by omega) (Weak.refl ⟨i + 1, rfl, by omega, rfl, ?_⟩)
      simp -dsimp -implicitDefEqProofs +contextual (maxSteps := 3000000) (disch := omega) only [go_sem, ↓reduceIte, reduceCtorEq, Nat.reduceEqDiff, Nat.reduceAdd, Nat.reduceSub, Nat.reduceMul, Nat.reduceLeDiff, Nat.reduceBEq, Int.reduceToNat, Int.reduceNeg, Int.reduceEq, Int.reduceLT, Int.reduceLE, Int.reduceAdd, Int.reduceSub, Int.reduceMul, Int.reduceBEq, Int.reduceBNe, Int.reduceGT, Int.reduceGE, beq_self_eq_true, bne_self_eq_false, h1, h2, h9, h10, h11]
      exact ⟨by simp, by rw [hf, hp]; simp⟩
    · rw [hf, hp] at h; exact h
  · have : i = xs.length := by omega
    refine Fin.pure0 rfl ?_
    rw [hf, this] at h; simpa using h

end Go.VS
