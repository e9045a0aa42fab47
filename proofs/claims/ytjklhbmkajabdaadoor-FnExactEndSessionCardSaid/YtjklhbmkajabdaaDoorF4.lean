/- Contracts: comparisons. -/
import Derived.Test.YtjklhbmkajabdaaDoorF3
set_option linter.all false
namespace Go.VS
open Go Go.RowKit
set_option maxRecDepth 10000

theorem s_eqIntS (xs ys : List Int) (hx : xs.length ≤ 4611686018427387904) {st : Store} {K : V → Store → Prop} (h : K (.x (.bool (xs == ys))) st) :
    Spec Proofs.Tryd.prog 9 [V.ints xs, V.ints ys] st K := by
  refine Spec.of_fd fd_laws_eqIntS rfl ?_
  simp -dsimp -implicitDefEqProofs +contextual (maxSteps := 3000000) (disch := omega) only [go_sem, ↓reduceIte, reduceCtorEq, Nat.reduceEqDiff, Nat.reduceAdd, Nat.reduceSub, Nat.reduceMul, Nat.reduceLeDiff, Nat.reduceBEq, Int.reduceToNat, Int.reduceNeg, Int.reduceEq, Int.reduceLT, Int.reduceLE, Int.reduceAdd, Int.reduceSub, Int.reduceMul, Int.reduceBEq, Int.reduceBNe, Int.reduceGT, Int.reduceGE, beq_self_eq_true, bne_self_eq_false, c_laws_eqIntS, V.ints]
  refine ⟨fun hne => Fin.pure0 rfl ?_, fun heq => ?_⟩
  · have : (xs == ys) = false := by
      rw [beq_eq_false_iff_ne]
      intro e; subst e; simp at hne
    rw [this] at h; exact h
  have hlen : xs.length = ys.length := by have := heq; simp only [bne_eq_false_iff_eq] at this; omega
  refine LoopC.intro (fun n ρ st' => ∃ i : Nat, n = xs.length - i ∧ i ≤ xs.length ∧ st' = st ∧ lk ρ 0 = .sl xs.length 1 (intsF xs) ∧ lk ρ 1 = .sl ys.length 1 (intsF ys) ∧ lk ρ 5 = .x (.int .i64 i) ∧
    (xs == ys) = (xs.drop i == ys.drop i)) xs.length (Weak.refl ⟨0, by simp [lk]⟩) ?_
  rintro n ρ st' ⟨i, rfl, hi', rfl, h0, h1, h5, hf⟩
  simp -dsimp -implicitDefEqProofs +contextual (maxSteps := 3000000) (disch := omega) only [go_sem, ↓reduceIte, reduceCtorEq, Nat.reduceEqDiff, Nat.reduceAdd, Nat.reduceSub, Nat.reduceMul, Nat.reduceLeDiff, Nat.reduceBEq, Int.reduceToNat, Int.reduceNeg, Int.reduceEq, Int.reduceLT, Int.reduceLE, Int.reduceAdd, Int.reduceSub, Int.reduceMul, Int.reduceBEq, Int.reduceBNe, Int.reduceGT, Int.reduceGE, beq_self_eq_true, bne_self_eq_false, h0, h1, h5]
  refine gcase.dec (fun hlt => ?_) (fun hge => ?_)
  · have hlt' : i < xs.length := by omega
    have hlt2 : i < ys.length := by omega
    rw [drop_at hlt', drop_at hlt2] at hf
    simp -dsimp -implicitDefEqProofs +contextual (maxSteps := 3000000) (disch := omega) only [go_sem, ↓reduceIte, reduceCtorEq, Nat.reduceEqDiff, Nat.reduceAdd, Nat.reduceSub, Nat.reduceMul, Nat.reduceLeDiff, Nat.reduceBEq, Int.reduceToNat, Int.reduceNeg, Int.reduceEq, Int.reduceLT, Int.reduceLE, Int.reduceAdd, Int.reduceSub, Int.reduceMul, Int.reduceBEq, Int.reduceBNe, Int.reduceGT, Int.reduceGE, beq_self_eq_true, bne_self_eq_false, intsF_lt, h5, wrap_i64, hlt', hlt2]
    refine ⟨by omega, hlt, by omega, by omega, by omega, by omega, fun hne => Fin.pure0 rfl ?_, fun he => ?_⟩
    · have : (xs == ys) = false := by
        rw [hf, List.cons_beq_cons, show (xs.getD i 0 == ys.getD i 0) = false by simpa using hne]; rfl
      rw [this] at h; exact h
    · refine loopE.go (xs.length - (i + 1)) (by omega) (Weak.refl ⟨i + 1, rfl, by omega, rfl, ?_⟩)
      simp -dsimp -implicitDefEqProofs +contextual (maxSteps := 3000000) (disch := omega) only [go_sem, ↓reduceIte, reduceCtorEq, Nat.reduceEqDiff, Nat.reduceAdd, Nat.reduceSub, Nat.reduceMul, Nat.reduceLeDiff, Nat.reduceBEq, Int.reduceToNat, Int.reduceNeg, Int.reduceEq, Int.reduceLT, Int.reduceLE, Int.reduceAdd, Int.reduceSub, Int.reduceMul, Int.reduceBEq, Int.reduceBNe, Int.reduceGT, Int.reduceGE, beq_self_eq_true, bne_self_eq_false, h0, h1]
      refine ⟨by simp, ?_⟩
      rw [hf, List.cons_beq_cons, show (xs.getD i 0 == ys.getD i 0) = true by simpa using he]; simp
  · have e1 : i = xs.length := by omega
    refine Fin.pure0 rfl ?_
    have : (xs == ys) = true := by rw [hf, List.drop_of_length_le (by omega), List.drop_of_length_le (by omega)]; rfl
    rw [this] at h; exact h

end Go.VS
