import Derived.Test.YtjklhbmkajabdaaDoorCode
import Derived.Test.YtjklhbmkajabdaaDoorP1
import Derived.Test.YtjklhbmkajabdaaDoorVs20
set_option linter.all false
namespace Go.VS
open Go Go.RowKit
set_option maxRecDepth 10000

theorem s_inRange (n lo hi : Int) {st : Store} {K : V → Store → Prop} (h : K (.x (.bool (inR n lo hi))) st) :
    Spec Proofs.Tryd.prog 48 [.x (.int .i64 n), .x (.int .i64 lo), .x (.int .i64 hi)] st K := by
  refine Spec.of_fd fd_impl_inRange rfl ?_
  simp -dsimp -implicitDefEqProofs +contextual (maxSteps := 3000000) (disch := omega) only [go_sem, ↓reduceIte, reduceCtorEq, Nat.reduceEqDiff, Nat.reduceAdd, Nat.reduceSub, Nat.reduceMul, Nat.reduceLeDiff, Nat.reduceBEq, Int.reduceToNat, Int.reduceNeg, Int.reduceEq, Int.reduceLT, Int.reduceLE, Int.reduceAdd, Int.reduceSub, Int.reduceMul, Int.reduceBEq, Int.reduceBNe, Int.reduceGT, Int.reduceGE, beq_self_eq_true, bne_self_eq_false, c_impl_inRange]
  refine gcase.dec (fun h1 => Fin.pure0 rfl ?_) (fun h1 => Fin.pure0 rfl ?_)
  · simpa [inR, h1] using h
  · simpa [inR, h1] using h

/-- The first place from i on where a test holds. -/
def firstAt (p : Int → Bool) : List Int → Nat → Int
  | [], _ => -1
  | x :: r, i => if p x then i else firstAt p r (i + 1)

theorem s_IndexFunc (xs : List Int) (p : Int → Bool) (g : Nat) (hx : xs.length ≤ 4611686018427387904) (hg : ∀ (x : Int) (st : Store) (K : V → Store → Prop), K (.x (.bool (p x))) st → Spec Proofs.Tryd.prog g [.x (.int .i64 x)] st K)
    {st : Store} {K : V → Store → Prop} (h : K (.x (.int .i64 (firstAt p xs 0))) st) :
    Spec Proofs.Tryd.prog 68 [V.ints xs, .fn (.func g) []] st K := by
  refine Spec.of_fd fd_slices_IndexFunc_int_int rfl ?_
  simp -dsimp -implicitDefEqProofs +contextual (maxSteps := 3000000) (disch := omega) only [go_sem, ↓reduceIte, reduceCtorEq, Nat.reduceEqDiff, Nat.reduceAdd, Nat.reduceSub, Nat.reduceMul, Nat.reduceLeDiff, Nat.reduceBEq, Int.reduceToNat, Int.reduceNeg, Int.reduceEq, Int.reduceLT, Int.reduceLE, Int.reduceAdd, Int.reduceSub, Int.reduceMul, Int.reduceBEq, Int.reduceBNe, Int.reduceGT, Int.reduceGE, beq_self_eq_true, bne_self_eq_false, c_slices_IndexFunc_int_int, V.ints]
  refine LoopC.intro (fun n ρ st' => ∃ i : Nat, n = xs.length - i ∧ i ≤ xs.length ∧ st' = st ∧ lk ρ 0 = .sl xs.length 1 (intsF xs) ∧ lk ρ 1 = .fn (.func g) [] ∧ lk ρ 7 = .x (.int .i64 xs.length) ∧ lk ρ 8 = .x (.int .i64 i) ∧ firstAt p xs 0 = firstAt p (xs.drop i) i) xs.length (Weak.refl ⟨0, by simp [lk]⟩) ?_
  rintro n ρ st' ⟨i, rfl, hi, rfl, h0, h1, h7, h8, hf⟩
  simp -dsimp -implicitDefEqProofs +contextual (maxSteps := 3000000) (disch := omega) only [go_sem, ↓reduceIte, reduceCtorEq, Nat.reduceEqDiff, Nat.reduceAdd, Nat.reduceSub, Nat.reduceMul, Nat.reduceLeDiff, Nat.reduceBEq, Int.reduceToNat, Int.reduceNeg, Int.reduceEq, Int.reduceLT, Int.reduceLE, Int.reduceAdd, Int.reduceSub, Int.reduceMul, Int.reduceBEq, Int.reduceBNe, Int.reduceGT, Int.reduceGE, beq_self_eq_true, bne_self_eq_false, h0, h1, h7, h8]
  refine gcase.dec (fun hlt => ?_) (fun hge => ?_)
  · have hlt' : i < xs.length := by omega
    rw [intsF_lt hlt']
    have hd : xs.drop i = xs.getD i 0 :: xs.drop (i + 1) := by
      rw [List.drop_eq_getElem_cons hlt']; simp [hlt']
    refine ⟨by omega, hlt, by omega, hg _ _ _ ?_⟩
    simp -dsimp -implicitDefEqProofs +contextual (maxSteps := 3000000) (disch := omega) only [go_sem, ↓reduceIte, reduceCtorEq, Nat.reduceEqDiff, Nat.reduceAdd, Nat.reduceSub, Nat.reduceMul, Nat.reduceLeDiff, Nat.reduceBEq, Int.reduceToNat, Int.reduceNeg, Int.reduceEq, Int.reduceLT, Int.reduceLE, Int.reduceAdd, Int.reduceSub, Int.reduceMul, Int.reduceBEq, Int.reduceBNe, Int.reduceGT, Int.reduceGE, beq_self_eq_true, bne_self_eq_false]
    refine ⟨fun hp => Fin.pure0 rfl ?_, fun hp => ?_⟩
    · rw [hf, hd, firstAt, if_pos hp] at h; exact h
    · simp -dsimp -implicitDefEqProofs +contextual (maxSteps := 3000000) (disch := omega) only [go_sem, ↓reduceIte, reduceCtorEq, Nat.reduceEqDiff, Nat.reduceAdd, Nat.reduceSub, Nat.reduceMul, Nat.reduceLeDiff, Nat.reduceBEq, Int.reduceToNat, Int.reduceNeg, Int.reduceEq, Int.reduceLT, Int.reduceLE, Int.reduceAdd, Int.reduceSub, Int.reduceMul, Int.reduceBEq, Int.reduceBNe, Int.reduceGT, Int.reduceGE, beq_self_eq_true, bne_self_eq_false, h8, wrap_i64]
      refine loopE.go (xs.length - (i + 1)) (by omega) (Weak.refl ⟨i + 1, rfl, by omega, rfl, ?_⟩)
      simp -dsimp -implicitDefEqProofs +contextual (maxSteps := 3000000) (disch := omega) only [go_sem, ↓reduceIte, reduceCtorEq, Nat.reduceEqDiff, Nat.reduceAdd, Nat.reduceSub, Nat.reduceMul, Nat.reduceLeDiff, Nat.reduceBEq, Int.reduceToNat, Int.reduceNeg, Int.reduceEq, Int.reduceLT, Int.reduceLE, Int.reduceAdd, Int.reduceSub, Int.reduceMul, Int.reduceBEq, Int.reduceBNe, Int.reduceGT, Int.reduceGE, beq_self_eq_true, bne_self_eq_false, h0, h1, h7, h8]
      refine ⟨by simp, ?_⟩
      rw [hf, hd, firstAt, if_neg (by rw [hp]; decide)]
  · have : i = xs.length := by omega
    refine Fin.pure0 rfl ?_
    rw [hf, this] at h; simpa [firstAt] using h

end Go.VS
