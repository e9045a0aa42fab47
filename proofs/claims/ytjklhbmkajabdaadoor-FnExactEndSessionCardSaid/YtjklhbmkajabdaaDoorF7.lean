/- Contracts: copies of lists. -/
import Derived.Test.YtjklhbmkajabdaaDoorF6
set_option linter.all false
namespace Go.VS
open Go Go.RowKit
set_option maxRecDepth 10000

def icells (xs : List Int) : List V := xs.map fun x => .x (.int .i64 x)

theorem icells_pure (xs : List Int) : V.pure.all (icells xs) = true := by
  induction xs with
  | nil => rfl
  | cons x r ih => simp [icells, V.pure.all, V.pure] at *; exact ih

@[go_sem] theorem icells_ren (xs : List Int) (t : List (Nat × Nat × Nat)) : (icells xs).map (V.ren t) = icells xs := by
  simp only [icells, List.map_map]; rfl
@[go_sem] theorem icells_frz (xs : List Int) (id : Nat) (k : Blk) : (icells xs).map (V.frz id k) = icells xs := by
  simp only [icells, List.map_map]; rfl
@[go_sem] theorem icells_len (xs : List Int) : (icells xs).length = xs.length := by simp [icells]

theorem frzC_ints (xs : List Int) (e ver : Nat) : frzC ⟨e, ver, 1, icells xs⟩ 0 xs.length = V.ints xs := by
  unfold frzC V.ints intsF
  congr 1
  funext i j
  unfold cut
  split
  · rename_i h
    obtain ⟨h1, h2⟩ := h
    have h2 : j < 1 := h2
    obtain rfl : j = 0 := by omega
    simp [icells, h1]
  · rfl

/-- Cells that are written up to some place. -/
def filled (xs : List Int) (i : Nat) : List V := icells (xs.take i) ++ List.replicate (xs.length - i) (.x (.int .i64 0))

theorem filled_zero (xs : List Int) : (List.replicate xs.length [V.x (Value.int IntKind.i64 0)]).flatten = filled xs 0 := by
  simp [filled, icells]
theorem filled_len (xs : List Int) {i : Nat} (h : i ≤ xs.length) : (filled xs i).length = xs.length := by
  simp [filled, icells]; omega
theorem filled_all (xs : List Int) : filled xs xs.length = icells xs := by simp [filled]
theorem filled_set (xs : List Int) {i : Nat} (h : i < xs.length) : (filled xs i).set i (.x (.int .i64 (xs.getD i 0))) = filled xs (i + 1) := by
  unfold filled
  rw [take_at h, List.set_append_right _ _ (by simp [icells]; omega)]
  have e : (icells (xs.take i)).length = i := by simp [icells]; omega
  rw [e, Nat.sub_self, show xs.length - i = (xs.length - (i + 1)) + 1 by omega, List.replicate_succ, List.set_cons_zero]
  simp [icells]

theorem s_toIntS (xs : List Int) (hx : xs.length ≤ 4194304) {st : Store} {K : V → Store → Prop} (h : K (.ref st.length 0 0 xs.length) (st ++ [⟨2, 0, 1, icells xs⟩])) :
    Spec Proofs.Tryd.prog 33 [V.ints xs] st K := by
  refine Spec.of_fd fd_laws_toIntS rfl ?_
  simp -dsimp -implicitDefEqProofs +contextual (maxSteps := 3000000) (disch := omega) only [go_sem, ↓reduceIte, reduceCtorEq, Nat.reduceEqDiff, Nat.reduceAdd, Nat.reduceSub, Nat.reduceMul, Nat.reduceLeDiff, Nat.reduceBEq, Int.reduceToNat, Int.reduceNeg, Int.reduceEq, Int.reduceLT, Int.reduceLE, Int.reduceAdd, Int.reduceSub, Int.reduceMul, Int.reduceBEq, Int.reduceBNe, Int.reduceGT, Int.reduceGE, beq_self_eq_true, bne_self_eq_false, c_laws_toIntS, V.ints]
  rw [filled_zero]
  refine ⟨by omega, by omega, by omega, by omega, by omega, ?_⟩
  refine LoopC.intro (fun n ρ st' => ∃ i : Nat, n = xs.length - i ∧ i ≤ xs.length ∧ st' = st ++ [⟨2, 0, 1, filled xs i⟩] ∧ lk ρ 0 = .sl xs.length 1 (intsF xs) ∧ lk ρ 3 = .ref st.length 0 0 xs.length ∧ lk ρ 4 = .x (.int .i64 i)) xs.length (Weak.refl ⟨0, by simp [lk]⟩) ?_
  rintro n ρ st' ⟨i, rfl, hi', rfl, h0, h3, h4⟩
  simp -dsimp -implicitDefEqProofs +contextual (maxSteps := 3000000) (disch := omega) only [go_sem, ↓reduceIte, reduceCtorEq, Nat.reduceEqDiff, Nat.reduceAdd, Nat.reduceSub, Nat.reduceMul, Nat.reduceLeDiff, Nat.reduceBEq, Int.reduceToNat, Int.reduceNeg, Int.reduceEq, Int.reduceLT, Int.reduceLE, Int.reduceAdd, Int.reduceSub, Int.reduceMul, Int.reduceBEq, Int.reduceBNe, Int.reduceGT, Int.reduceGE, beq_self_eq_true, bne_self_eq_false, h0, h3, h4]
  refine gcase.dec (fun hlt => ?_) (fun hge => ?_)
  · have hlt' : i < xs.length := by omega
    simp -dsimp -implicitDefEqProofs +contextual (maxSteps := 3000000) (disch := omega) only [go_sem, ↓reduceIte, reduceCtorEq, Nat.reduceEqDiff, Nat.reduceAdd, Nat.reduceSub, Nat.reduceMul, Nat.reduceLeDiff, Nat.reduceBEq, Int.reduceToNat, Int.reduceNeg, Int.reduceEq, Int.reduceLT, Int.reduceLE, Int.reduceAdd, Int.reduceSub, Int.reduceMul, Int.reduceBEq, Int.reduceBNe, Int.reduceGT, Int.reduceGE, beq_self_eq_true, bne_self_eq_false, intsF_lt, h3, h4, wrap_i64, hlt']
    rw [filled_set xs hlt', filled_len xs hi']
    refine ⟨by omega, hlt, by omega, by omega, hlt, by omega, loopE.go (xs.length - (i + 1)) (by omega) (Weak.refl ⟨i + 1, rfl, by omega, rfl, ?_⟩)⟩
    simp -dsimp -implicitDefEqProofs +contextual (maxSteps := 3000000) (disch := omega) only [go_sem, ↓reduceIte, reduceCtorEq, Nat.reduceEqDiff, Nat.reduceAdd, Nat.reduceSub, Nat.reduceMul, Nat.reduceLeDiff, Nat.reduceBEq, Int.reduceToNat, Int.reduceNeg, Int.reduceEq, Int.reduceLT, Int.reduceLE, Int.reduceAdd, Int.reduceSub, Int.reduceMul, Int.reduceBEq, Int.reduceBNe, Int.reduceGT, Int.reduceGE, beq_self_eq_true, bne_self_eq_false, h0, h3]
    simp
  · have e1 : i = xs.length := by omega
    subst e1
    rw [filled_all]
    exact Fin.refl h

end Go.VS
