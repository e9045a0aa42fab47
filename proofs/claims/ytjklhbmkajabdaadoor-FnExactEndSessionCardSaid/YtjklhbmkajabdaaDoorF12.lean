/- Contracts: good decoders, buffers, sessions. -/
import Derived.Test.YtjklhbmkajabdaaDoorF11
set_option linter.all false
namespace Go.VS
open Go Go.RowKit
set_option maxRecDepth 10000

/-- A decoder as it must be. -/
def Dec.good (d : Dec) : Bool :=
  inR d.en 1 5 && inR d.shift 0 1 && inR d.loose 0 1000 && (d.en == 5 || !decide (d.shift + d.loose > 0)) &&
  (d.held.isEmpty || bif d.en == 1 then begun d.held else unitsC d.en && decide ((d.held.length : Int) ≤ 3) && ((d.held.length : Int) == 1 || inR (unitC d.en d.held) 55296 56319))

theorem len2 {s : List UInt8} (h1 : s.isEmpty = false) (h2 : ((s.length : Int) == 1) = false) : 2 ≤ s.length := by
  cases s with
  | nil => cases h1
  | cons a r => rw [beq_eq_false_iff_ne] at h2; simp at *; cases r <;> simp_all

theorem le2 {n : Nat} (h : decide ((n : Int) < 2) = false) : 2 ≤ n := by rw [decide_eq_false_iff_not] at h; omega

theorem lt2_eq (s : List UInt8) : decide ((s.length : Int) < 2) = (s.isEmpty || ((s.length : Int) == 1)) := by
  rw [Bool.eq_iff_iff]
  rcases s with _ | ⟨a, _ | ⟨b, r⟩⟩
  · simp
  · simp
  · simp; omega
theorem lt4_eq (s : List UInt8) : decide ((s.length : Int) < 4) = decide ((s.length : Int) ≤ 3) := by
  rw [decide_eq_decide]; omega
theorem is1_le {s : List UInt8} (h : ((s.length : Int) == 1) = true) : decide ((s.length : Int) ≤ 3) = true := by
  rw [beq_iff_eq] at h; rw [decide_eq_true_iff]; omega
theorem gcase_or {a b : Bool} {A B : Prop} : gcase (a || b) A B = gcase a A (gcase b A B) := by cases a <;> simp [gcase]
theorem gcase_and {a b : Bool} {A B : Prop} : gcase (a && b) A B = gcase a (gcase b A B) B := by cases a <;> simp [gcase]

theorem s_GoodDecoder (d : Dec) (hh : d.held.length ≤ 4611686018427387904) {st : Store} {K : V → Store → Prop} (h : K (.x (.bool d.good)) st) : Spec Proofs.Tryd.prog 34 [.agg d.cells] st K := by
  refine Spec.of_fd fd_impl_GoodDecoder rfl ?_
  simp -dsimp -implicitDefEqProofs +contextual (maxSteps := 3000000) (disch := omega) only [go_sem, ↓reduceIte, reduceCtorEq, Nat.reduceEqDiff, Nat.reduceAdd, Nat.reduceSub, Nat.reduceMul, Nat.reduceLeDiff, Nat.reduceBEq, Int.reduceToNat, Int.reduceNeg, Int.reduceEq, Int.reduceLT, Int.reduceLE, Int.reduceAdd, Int.reduceSub, Int.reduceMul, Int.reduceBEq, Int.reduceBNe, Int.reduceGT, Int.reduceGE, beq_self_eq_true, bne_self_eq_false, c_impl_GoodDecoder, Dec.cells]
  have hF : d.good = false → K (.x (.bool false)) st := fun e => by rw [e] at h; exact h
  refine s_isCode _ ?_
  cases h1 : inR d.en 1 5 with
  | false =>
    simp -dsimp -implicitDefEqProofs +contextual (maxSteps := 3000000) (disch := omega) only [go_sem, ↓reduceIte, reduceCtorEq, Nat.reduceEqDiff, Nat.reduceAdd, Nat.reduceSub, Nat.reduceMul, Nat.reduceLeDiff, Nat.reduceBEq, Int.reduceToNat, Int.reduceNeg, Int.reduceEq, Int.reduceLT, Int.reduceLE, Int.reduceAdd, Int.reduceSub, Int.reduceMul, Int.reduceBEq, Int.reduceBNe, Int.reduceGT, Int.reduceGE, beq_self_eq_true, bne_self_eq_false, h1]
    exact Fin.pure (Base.refl _) rfl (hF (by simp [Dec.good, h1]))
  | true =>
  simp -dsimp -implicitDefEqProofs +contextual (maxSteps := 3000000) (disch := omega) only [go_sem, ↓reduceIte, reduceCtorEq, Nat.reduceEqDiff, Nat.reduceAdd, Nat.reduceSub, Nat.reduceMul, Nat.reduceLeDiff, Nat.reduceBEq, Int.reduceToNat, Int.reduceNeg, Int.reduceEq, Int.reduceLT, Int.reduceLE, Int.reduceAdd, Int.reduceSub, Int.reduceMul, Int.reduceBEq, Int.reduceBNe, Int.reduceGT, Int.reduceGE, beq_self_eq_true, bne_self_eq_false]
  refine s_inRange _ _ _ ?_
  cases h2 : inR d.shift 0 1 with
  | false =>
    simp -dsimp -implicitDefEqProofs +contextual (maxSteps := 3000000) (disch := omega) only [go_sem, ↓reduceIte, reduceCtorEq, Nat.reduceEqDiff, Nat.reduceAdd, Nat.reduceSub, Nat.reduceMul, Nat.reduceLeDiff, Nat.reduceBEq, Int.reduceToNat, Int.reduceNeg, Int.reduceEq, Int.reduceLT, Int.reduceLE, Int.reduceAdd, Int.reduceSub, Int.reduceMul, Int.reduceBEq, Int.reduceBNe, Int.reduceGT, Int.reduceGE, beq_self_eq_true, bne_self_eq_false]
    exact Fin.pure (Base.refl _) rfl (hF (by simp [Dec.good, h2]))
  | true =>
  simp -dsimp -implicitDefEqProofs +contextual (maxSteps := 3000000) (disch := omega) only [go_sem, ↓reduceIte, reduceCtorEq, Nat.reduceEqDiff, Nat.reduceAdd, Nat.reduceSub, Nat.reduceMul, Nat.reduceLeDiff, Nat.reduceBEq, Int.reduceToNat, Int.reduceNeg, Int.reduceEq, Int.reduceLT, Int.reduceLE, Int.reduceAdd, Int.reduceSub, Int.reduceMul, Int.reduceBEq, Int.reduceBNe, Int.reduceGT, Int.reduceGE, beq_self_eq_true, bne_self_eq_false]
  refine s_inRange _ _ _ ?_
  cases h3 : inR d.loose 0 1000 with
  | false =>
    simp -dsimp -implicitDefEqProofs +contextual (maxSteps := 3000000) (disch := omega) only [go_sem, ↓reduceIte, reduceCtorEq, Nat.reduceEqDiff, Nat.reduceAdd, Nat.reduceSub, Nat.reduceMul, Nat.reduceLeDiff, Nat.reduceBEq, Int.reduceToNat, Int.reduceNeg, Int.reduceEq, Int.reduceLT, Int.reduceLE, Int.reduceAdd, Int.reduceSub, Int.reduceMul, Int.reduceBEq, Int.reduceBNe, Int.reduceGT, Int.reduceGE, beq_self_eq_true, bne_self_eq_false]
    exact Fin.pure (Base.refl _) rfl (hF (by simp [Dec.good, h3]))
  | true =>
  have hb2 : 0 ≤ d.shift ∧ d.shift ≤ 1 := by simpa [inR] using h2
  have hb3 : 0 ≤ d.loose ∧ d.loose ≤ 1000 := by simpa [inR] using h3
  have ew : IntKind.i64.wrap (d.shift + d.loose) = d.shift + d.loose := wrap_i64 (by omega)
  simp -dsimp -implicitDefEqProofs +contextual (maxSteps := 3000000) (disch := omega) only [go_sem, ↓reduceIte, reduceCtorEq, Nat.reduceEqDiff, Nat.reduceAdd, Nat.reduceSub, Nat.reduceMul, Nat.reduceLeDiff, Nat.reduceBEq, Int.reduceToNat, Int.reduceNeg, Int.reduceEq, Int.reduceLT, Int.reduceLE, Int.reduceAdd, Int.reduceSub, Int.reduceMul, Int.reduceBEq, Int.reduceBNe, Int.reduceGT, Int.reduceGE, beq_self_eq_true, bne_self_eq_false, ew, bne]
  have hT : d.good = true → K (.x (.bool true)) st := fun e => by rw [e] at h; exact h
  have hG : ∀ b, d.good = b → K (.x (.bool b)) st := fun b e => by rw [e] at h; exact h
  (repeat' (first | omega | (with_reducible exact rfl) | (with_reducible refine Fin.pure (Base.refl _) rfl ?_) | (with_reducible refine Fin.pure0 rfl ?_) | (with_reducible refine gcase.mk (fun _ => ?_) (fun _ => ?_)) | (with_reducible refine And.intro ?_ ?_) | ((with_reducible refine SpecH.of (s_IsBegun _ hh ?_)); try simp -dsimp -implicitDefEqProofs +contextual (maxSteps := 3000000) (disch := omega) only [go_sem, ↓reduceIte, reduceCtorEq, Nat.reduceEqDiff, Nat.reduceAdd, Nat.reduceSub, Nat.reduceMul, Nat.reduceLeDiff, Nat.reduceBEq, Int.reduceToNat, Int.reduceNeg, Int.reduceEq, Int.reduceLT, Int.reduceLE, Int.reduceAdd, Int.reduceSub, Int.reduceMul, Int.reduceBEq, Int.reduceBNe, Int.reduceGT, Int.reduceGE, beq_self_eq_true, bne_self_eq_false,  *]) | ((with_reducible refine SpecH.of (s_isUnits _ ?_)); try simp -dsimp -implicitDefEqProofs +contextual (maxSteps := 3000000) (disch := omega) only [go_sem, ↓reduceIte, reduceCtorEq, Nat.reduceEqDiff, Nat.reduceAdd, Nat.reduceSub, Nat.reduceMul, Nat.reduceLeDiff, Nat.reduceBEq, Int.reduceToNat, Int.reduceNeg, Int.reduceEq, Int.reduceLT, Int.reduceLE, Int.reduceAdd, Int.reduceSub, Int.reduceMul, Int.reduceBEq, Int.reduceBNe, Int.reduceGT, Int.reduceGE, beq_self_eq_true, bne_self_eq_false,  *]) | ((with_reducible refine SpecH.of (s_unitAt d.en d.held (len2 ‹_› ‹_›) ?_)); try simp -dsimp -implicitDefEqProofs +contextual (maxSteps := 3000000) (disch := omega) only [go_sem, ↓reduceIte, reduceCtorEq, Nat.reduceEqDiff, Nat.reduceAdd, Nat.reduceSub, Nat.reduceMul, Nat.reduceLeDiff, Nat.reduceBEq, Int.reduceToNat, Int.reduceNeg, Int.reduceEq, Int.reduceLT, Int.reduceLE, Int.reduceAdd, Int.reduceSub, Int.reduceMul, Int.reduceBEq, Int.reduceBNe, Int.reduceGT, Int.reduceGE, beq_self_eq_true, bne_self_eq_false,  *]) | ((with_reducible refine SpecH.of (s_isHigh _ ?_)); try simp -dsimp -implicitDefEqProofs +contextual (maxSteps := 3000000) (disch := omega) only [go_sem, ↓reduceIte, reduceCtorEq, Nat.reduceEqDiff, Nat.reduceAdd, Nat.reduceSub, Nat.reduceMul, Nat.reduceLeDiff, Nat.reduceBEq, Int.reduceToNat, Int.reduceNeg, Int.reduceEq, Int.reduceLT, Int.reduceLE, Int.reduceAdd, Int.reduceSub, Int.reduceMul, Int.reduceBEq, Int.reduceBNe, Int.reduceGT, Int.reduceGE, beq_self_eq_true, bne_self_eq_false,  *])))
  all_goals
    refine hG _ ?_
    simp only [Dec.good, *, Bool.and_true, Bool.true_and, Bool.and_false, Bool.false_and, Bool.or_true, Bool.true_or, Bool.or_false, Bool.false_or, Bool.not_true, Bool.not_false, Bool.not_not, cond_true, cond_false]

theorem s_GoodDecoder' (d : Dec) (hh : d.held.length ≤ 4611686018427387904) {st : Store} {K : V → Store → Prop} (h : K (.x (.bool d.good)) st) : Spec Proofs.Tryd.prog 29 [.agg d.cells] st K := by
  refine Spec.of_fd fd_spec_GoodDecoder rfl ?_
  simp -dsimp -implicitDefEqProofs +contextual (maxSteps := 3000000) (disch := omega) only [go_sem, ↓reduceIte, reduceCtorEq, Nat.reduceEqDiff, Nat.reduceAdd, Nat.reduceSub, Nat.reduceMul, Nat.reduceLeDiff, Nat.reduceBEq, Int.reduceToNat, Int.reduceNeg, Int.reduceEq, Int.reduceLT, Int.reduceLE, Int.reduceAdd, Int.reduceSub, Int.reduceMul, Int.reduceBEq, Int.reduceBNe, Int.reduceGT, Int.reduceGE, beq_self_eq_true, bne_self_eq_false, c_spec_GoodDecoder, Dec.cells]
  have hG : ∀ b, d.good = b → K (.x (.bool b)) st := fun b e => by rw [e] at h; exact h
  refine s_l2Code _ ?_
  cases h1 : inR d.en 1 5 with
  | false =>
    simp -dsimp -implicitDefEqProofs +contextual (maxSteps := 3000000) (disch := omega) only [go_sem, ↓reduceIte, reduceCtorEq, Nat.reduceEqDiff, Nat.reduceAdd, Nat.reduceSub, Nat.reduceMul, Nat.reduceLeDiff, Nat.reduceBEq, Int.reduceToNat, Int.reduceNeg, Int.reduceEq, Int.reduceLT, Int.reduceLE, Int.reduceAdd, Int.reduceSub, Int.reduceMul, Int.reduceBEq, Int.reduceBNe, Int.reduceGT, Int.reduceGE, beq_self_eq_true, bne_self_eq_false, h1]
    exact Fin.pure (Base.refl _) rfl (hG _ (by simp [Dec.good, h1]))
  | true =>
  simp -dsimp -implicitDefEqProofs +contextual (maxSteps := 3000000) (disch := omega) only [go_sem, ↓reduceIte, reduceCtorEq, Nat.reduceEqDiff, Nat.reduceAdd, Nat.reduceSub, Nat.reduceMul, Nat.reduceLeDiff, Nat.reduceBEq, Int.reduceToNat, Int.reduceNeg, Int.reduceEq, Int.reduceLT, Int.reduceLE, Int.reduceAdd, Int.reduceSub, Int.reduceMul, Int.reduceBEq, Int.reduceBNe, Int.reduceGT, Int.reduceGE, beq_self_eq_true, bne_self_eq_false]
  refine s_l1In _ _ _ ?_
  cases h2 : inR d.shift 0 1 with
  | false =>
    simp -dsimp -implicitDefEqProofs +contextual (maxSteps := 3000000) (disch := omega) only [go_sem, ↓reduceIte, reduceCtorEq, Nat.reduceEqDiff, Nat.reduceAdd, Nat.reduceSub, Nat.reduceMul, Nat.reduceLeDiff, Nat.reduceBEq, Int.reduceToNat, Int.reduceNeg, Int.reduceEq, Int.reduceLT, Int.reduceLE, Int.reduceAdd, Int.reduceSub, Int.reduceMul, Int.reduceBEq, Int.reduceBNe, Int.reduceGT, Int.reduceGE, beq_self_eq_true, bne_self_eq_false]
    exact Fin.pure (Base.refl _) rfl (hG _ (by simp [Dec.good, h2]))
  | true =>
  simp -dsimp -implicitDefEqProofs +contextual (maxSteps := 3000000) (disch := omega) only [go_sem, ↓reduceIte, reduceCtorEq, Nat.reduceEqDiff, Nat.reduceAdd, Nat.reduceSub, Nat.reduceMul, Nat.reduceLeDiff, Nat.reduceBEq, Int.reduceToNat, Int.reduceNeg, Int.reduceEq, Int.reduceLT, Int.reduceLE, Int.reduceAdd, Int.reduceSub, Int.reduceMul, Int.reduceBEq, Int.reduceBNe, Int.reduceGT, Int.reduceGE, beq_self_eq_true, bne_self_eq_false]
  refine s_l1In _ _ _ ?_
  cases h3 : inR d.loose 0 1000 with
  | false =>
    simp -dsimp -implicitDefEqProofs +contextual (maxSteps := 3000000) (disch := omega) only [go_sem, ↓reduceIte, reduceCtorEq, Nat.reduceEqDiff, Nat.reduceAdd, Nat.reduceSub, Nat.reduceMul, Nat.reduceLeDiff, Nat.reduceBEq, Int.reduceToNat, Int.reduceNeg, Int.reduceEq, Int.reduceLT, Int.reduceLE, Int.reduceAdd, Int.reduceSub, Int.reduceMul, Int.reduceBEq, Int.reduceBNe, Int.reduceGT, Int.reduceGE, beq_self_eq_true, bne_self_eq_false]
    exact Fin.pure (Base.refl _) rfl (hG _ (by simp [Dec.good, h3]))
  | true =>
  have hb2 : 0 ≤ d.shift ∧ d.shift ≤ 1 := by simpa [inR] using h2
  have hb3 : 0 ≤ d.loose ∧ d.loose ≤ 1000 := by simpa [inR] using h3
  have ew : IntKind.i64.wrap (d.shift + d.loose) = d.shift + d.loose := wrap_i64 (by omega)
  simp -dsimp -implicitDefEqProofs +contextual (maxSteps := 3000000) (disch := omega) only [go_sem, ↓reduceIte, reduceCtorEq, Nat.reduceEqDiff, Nat.reduceAdd, Nat.reduceSub, Nat.reduceMul, Nat.reduceLeDiff, Nat.reduceBEq, Int.reduceToNat, Int.reduceNeg, Int.reduceEq, Int.reduceLT, Int.reduceLE, Int.reduceAdd, Int.reduceSub, Int.reduceMul, Int.reduceBEq, Int.reduceBNe, Int.reduceGT, Int.reduceGE, beq_self_eq_true, bne_self_eq_false, ew, bne]
  (repeat' (first | omega | (with_reducible exact rfl) | (with_reducible refine Fin.pure (Base.refl _) rfl ?_) | (with_reducible refine Fin.pure0 rfl ?_) | (with_reducible refine gcase.mk (fun _ => ?_) (fun _ => ?_)) | (with_reducible refine And.intro ?_ ?_) | ((with_reducible refine SpecH.of (s_l1Begun _ hh ?_)); try simp -dsimp -implicitDefEqProofs +contextual (maxSteps := 3000000) (disch := omega) only [go_sem, ↓reduceIte, reduceCtorEq, Nat.reduceEqDiff, Nat.reduceAdd, Nat.reduceSub, Nat.reduceMul, Nat.reduceLeDiff, Nat.reduceBEq, Int.reduceToNat, Int.reduceNeg, Int.reduceEq, Int.reduceLT, Int.reduceLE, Int.reduceAdd, Int.reduceSub, Int.reduceMul, Int.reduceBEq, Int.reduceBNe, Int.reduceGT, Int.reduceGE, beq_self_eq_true, bne_self_eq_false,  lt2_eq, lt4_eq, gcase_or, *]) | ((with_reducible refine SpecH.of (s_l2Units _ ?_)); try simp -dsimp -implicitDefEqProofs +contextual (maxSteps := 3000000) (disch := omega) only [go_sem, ↓reduceIte, reduceCtorEq, Nat.reduceEqDiff, Nat.reduceAdd, Nat.reduceSub, Nat.reduceMul, Nat.reduceLeDiff, Nat.reduceBEq, Int.reduceToNat, Int.reduceNeg, Int.reduceEq, Int.reduceLT, Int.reduceLE, Int.reduceAdd, Int.reduceSub, Int.reduceMul, Int.reduceBEq, Int.reduceBNe, Int.reduceGT, Int.reduceGE, beq_self_eq_true, bne_self_eq_false,  lt2_eq, lt4_eq, gcase_or, *]) | ((with_reducible refine SpecH.of (s_l2Unit d.en d.held (len2 ‹_› ‹_›) ?_)); try simp -dsimp -implicitDefEqProofs +contextual (maxSteps := 3000000) (disch := omega) only [go_sem, ↓reduceIte, reduceCtorEq, Nat.reduceEqDiff, Nat.reduceAdd, Nat.reduceSub, Nat.reduceMul, Nat.reduceLeDiff, Nat.reduceBEq, Int.reduceToNat, Int.reduceNeg, Int.reduceEq, Int.reduceLT, Int.reduceLE, Int.reduceAdd, Int.reduceSub, Int.reduceMul, Int.reduceBEq, Int.reduceBNe, Int.reduceGT, Int.reduceGE, beq_self_eq_true, bne_self_eq_false,  lt2_eq, lt4_eq, gcase_or, *]) | ((with_reducible refine SpecH.of (s_l2High _ ?_)); try simp -dsimp -implicitDefEqProofs +contextual (maxSteps := 3000000) (disch := omega) only [go_sem, ↓reduceIte, reduceCtorEq, Nat.reduceEqDiff, Nat.reduceAdd, Nat.reduceSub, Nat.reduceMul, Nat.reduceLeDiff, Nat.reduceBEq, Int.reduceToNat, Int.reduceNeg, Int.reduceEq, Int.reduceLT, Int.reduceLE, Int.reduceAdd, Int.reduceSub, Int.reduceMul, Int.reduceBEq, Int.reduceBNe, Int.reduceGT, Int.reduceGE, beq_self_eq_true, bne_self_eq_false,  lt2_eq, lt4_eq, gcase_or, *])))
  all_goals
    refine hG _ ?_
    clear hG h
    simp only [Dec.good]
    simp only [cond_true, *, Bool.and_true, Bool.true_and, Bool.and_false, Bool.false_and, Bool.or_true, Bool.true_or, Bool.or_false, Bool.false_or, Bool.not_true, Bool.not_false, Bool.not_not, cond_true, cond_false]
  all_goals exact is1_le ‹_›

def Bf.good (b : Bf) : Bool := inR b.max 1 60 && decide ((b.runes.length : Int) ≤ b.max) && b.runes.all goodRune && ((b.longs.length : Int) == b.runes.length) && inR b.gone 0 1000000 && b.longs.all (fun n => inR n 1 1000)

theorem s_GoodBuf1 (n : Int) {st : Store} {K : V → Store → Prop} (h : K (.x (.bool (!inR n 1 1000))) st) : Spec Proofs.Tryd.prog 55 [.x (.int .i64 n)] st K := by
  refine Spec.of_fd fd_impl_GoodBuf_1 rfl ?_
  simp -dsimp -implicitDefEqProofs +contextual (maxSteps := 3000000) (disch := omega) only [go_sem, ↓reduceIte, reduceCtorEq, Nat.reduceEqDiff, Nat.reduceAdd, Nat.reduceSub, Nat.reduceMul, Nat.reduceLeDiff, Nat.reduceBEq, Int.reduceToNat, Int.reduceNeg, Int.reduceEq, Int.reduceLT, Int.reduceLE, Int.reduceAdd, Int.reduceSub, Int.reduceMul, Int.reduceBEq, Int.reduceBNe, Int.reduceGT, Int.reduceGE, beq_self_eq_true, bne_self_eq_false, c_impl_GoodBuf_1]
  refine s_inRange _ _ _ ?_
  simp -dsimp -implicitDefEqProofs +contextual (maxSteps := 3000000) (disch := omega) only [go_sem, ↓reduceIte, reduceCtorEq, Nat.reduceEqDiff, Nat.reduceAdd, Nat.reduceSub, Nat.reduceMul, Nat.reduceLeDiff, Nat.reduceBEq, Int.reduceToNat, Int.reduceNeg, Int.reduceEq, Int.reduceLT, Int.reduceLE, Int.reduceAdd, Int.reduceSub, Int.reduceMul, Int.reduceBEq, Int.reduceBNe, Int.reduceGT, Int.reduceGE, beq_self_eq_true, bne_self_eq_false]
  exact Fin.pure0 rfl h

theorem s_l1AllRunes (xs : List Int) (hx : xs.length ≤ 4611686018427387904) {st : Store} {K : V → Store → Prop} (h : K (.x (.bool (xs.all goodRune && decide ((xs.length : Int) ≤ 1000)))) st) :
    Spec Proofs.Tryd.prog 44 [V.ints xs] st K := by
  refine Spec.of_fd fd_spec_l1AllRunes rfl ?_
  simp -dsimp -implicitDefEqProofs +contextual (maxSteps := 3000000) (disch := omega) only [go_sem, ↓reduceIte, reduceCtorEq, Nat.reduceEqDiff, Nat.reduceAdd, Nat.reduceSub, Nat.reduceMul, Nat.reduceLeDiff, Nat.reduceBEq, Int.reduceToNat, Int.reduceNeg, Int.reduceEq, Int.reduceLT, Int.reduceLE, Int.reduceAdd, Int.reduceSub, Int.reduceMul, Int.reduceBEq, Int.reduceBNe, Int.reduceGT, Int.reduceGE, beq_self_eq_true, bne_self_eq_false, c_spec_l1AllRunes, V.ints]
  refine LoopC.intro (fun n ρ st' => ∃ i : Nat, n = xs.length - i ∧ i ≤ xs.length ∧ st' = st ∧ lk ρ 0 = .sl xs.length 1 (intsF xs) ∧ lk ρ 5 = .sl xs.length 1 (intsF xs) ∧ lk ρ 6 = .x (.int .i64 xs.length) ∧ lk ρ 7 = .x (.int .i64 i) ∧
    (xs.all goodRune) = ((xs.drop i).all goodRune)) xs.length (Weak.refl ⟨0, by simp [lk]⟩) ?_
  rintro n ρ st' ⟨i, rfl, hi', rfl, h0, h5, h6, h7, hf⟩
  simp -dsimp -implicitDefEqProofs +contextual (maxSteps := 3000000) (disch := omega) only [go_sem, ↓reduceIte, reduceCtorEq, Nat.reduceEqDiff, Nat.reduceAdd, Nat.reduceSub, Nat.reduceMul, Nat.reduceLeDiff, Nat.reduceBEq, Int.reduceToNat, Int.reduceNeg, Int.reduceEq, Int.reduceLT, Int.reduceLE, Int.reduceAdd, Int.reduceSub, Int.reduceMul, Int.reduceBEq, Int.reduceBNe, Int.reduceGT, Int.reduceGE, beq_self_eq_true, bne_self_eq_false, h0, h5, h6, h7]
  refine gcase.dec (fun hlt => ?_) (fun hge => ?_)
  · have hlt' : i < xs.length := by omega
    rw [intsF_lt hlt']
    rw [drop_at hlt', List.all_cons] at hf
    refine ⟨by omega, hlt, by omega, ?_⟩
    refine s_GoodRune' _ ?_
    simp -dsimp -implicitDefEqProofs +contextual (maxSteps := 3000000) (disch := omega) only [go_sem, ↓reduceIte, reduceCtorEq, Nat.reduceEqDiff, Nat.reduceAdd, Nat.reduceSub, Nat.reduceMul, Nat.reduceLeDiff, Nat.reduceBEq, Int.reduceToNat, Int.reduceNeg, Int.reduceEq, Int.reduceLT, Int.reduceLE, Int.reduceAdd, Int.reduceSub, Int.reduceMul, Int.reduceBEq, Int.reduceBNe, Int.reduceGT, Int.reduceGE, beq_self_eq_true, bne_self_eq_false]
    refine ⟨fun hp => ?_, fun hp => Fin.pure0 rfl ?_⟩
    · simp -dsimp -implicitDefEqProofs +contextual (maxSteps := 3000000) (disch := omega) only [go_sem, ↓reduceIte, reduceCtorEq, Nat.reduceEqDiff, Nat.reduceAdd, Nat.reduceSub, Nat.reduceMul, Nat.reduceLeDiff, Nat.reduceBEq, Int.reduceToNat, Int.reduceNeg, Int.reduceEq, Int.reduceLT, Int.reduceLE, Int.reduceAdd, Int.reduceSub, Int.reduceMul, Int.reduceBEq, Int.reduceBNe, Int.reduceGT, Int.reduceGE, beq_self_eq_true, bne_self_eq_false, h7, wrap_i64]
      refine loopE.go (xs.length - (i + 1)) (by omega) (Weak.refl ⟨i + 1, rfl, by omega, rfl, ?_⟩)
      simp -dsimp -implicitDefEqProofs +contextual (maxSteps := 3000000) (disch := omega) only [go_sem, ↓reduceIte, reduceCtorEq, Nat.reduceEqDiff, Nat.reduceAdd, Nat.reduceSub, Nat.reduceMul, Nat.reduceLeDiff, Nat.reduceBEq, Int.reduceToNat, Int.reduceNeg, Int.reduceEq, Int.reduceLT, Int.reduceLE, Int.reduceAdd, Int.reduceSub, Int.reduceMul, Int.reduceBEq, Int.reduceBNe, Int.reduceGT, Int.reduceGE, beq_self_eq_true, bne_self_eq_false, h0, h5, h6]
      exact ⟨by simp, by rw [hf, hp]; simp⟩
    · rw [hf, hp] at h; exact h
  · have : i = xs.length := by omega
    refine Fin.pure0 rfl ?_
    rw [hf, this] at h; simpa using h

theorem s_GoodBuf (b : Bf) (h1 : b.runes.length ≤ 4611686018427387904) (h2 : b.longs.length ≤ 4611686018427387904) {st : Store} {K : V → Store → Prop} (h : K (.x (.bool b.good)) st) : Spec Proofs.Tryd.prog 35 [.agg b.cells] st K := by
  refine Spec.of_fd fd_impl_GoodBuf rfl ?_
  have hG : ∀ x, b.good = x → K (.x (.bool x)) st := fun x e => by rw [e] at h; exact h
  simp -dsimp -implicitDefEqProofs +contextual (maxSteps := 3000000) (disch := omega) only [go_sem, ↓reduceIte, reduceCtorEq, Nat.reduceEqDiff, Nat.reduceAdd, Nat.reduceSub, Nat.reduceMul, Nat.reduceLeDiff, Nat.reduceBEq, Int.reduceToNat, Int.reduceNeg, Int.reduceEq, Int.reduceLT, Int.reduceLE, Int.reduceAdd, Int.reduceSub, Int.reduceMul, Int.reduceBEq, Int.reduceBNe, Int.reduceGT, Int.reduceGE, beq_self_eq_true, bne_self_eq_false, c_impl_GoodBuf, Bf.cells, V.ints]
  (repeat' (first | omega | (with_reducible exact rfl) | (with_reducible refine Fin.pure (Base.refl _) rfl ?_) | (with_reducible refine Fin.pure0 rfl ?_) | (with_reducible refine gcase.mk (fun _ => ?_) (fun _ => ?_)) | (with_reducible refine And.intro ?_ ?_) | ((with_reducible refine SpecH.of (s_inRange _ _ _ ?_)); try simp -dsimp -implicitDefEqProofs +contextual (maxSteps := 3000000) (disch := omega) only [go_sem, ↓reduceIte, reduceCtorEq, Nat.reduceEqDiff, Nat.reduceAdd, Nat.reduceSub, Nat.reduceMul, Nat.reduceLeDiff, Nat.reduceBEq, Int.reduceToNat, Int.reduceNeg, Int.reduceEq, Int.reduceLT, Int.reduceLE, Int.reduceAdd, Int.reduceSub, Int.reduceMul, Int.reduceBEq, Int.reduceBNe, Int.reduceGT, Int.reduceGE, beq_self_eq_true, bne_self_eq_false,  *]) | ((with_reducible refine SpecH.of (s_areRunes _ _ h1 ?_)); try simp -dsimp -implicitDefEqProofs +contextual (maxSteps := 3000000) (disch := omega) only [go_sem, ↓reduceIte, reduceCtorEq, Nat.reduceEqDiff, Nat.reduceAdd, Nat.reduceSub, Nat.reduceMul, Nat.reduceLeDiff, Nat.reduceBEq, Int.reduceToNat, Int.reduceNeg, Int.reduceEq, Int.reduceLT, Int.reduceLE, Int.reduceAdd, Int.reduceSub, Int.reduceMul, Int.reduceBEq, Int.reduceBNe, Int.reduceGT, Int.reduceGE, beq_self_eq_true, bne_self_eq_false,  *]) | ((with_reducible refine SpecH.of (s_ContainsFunc _ (fun n => !inR n 1 1000) _ h2 (fun x st K h => s_GoodBuf1 x h) ?_)); try simp -dsimp -implicitDefEqProofs +contextual (maxSteps := 3000000) (disch := omega) only [go_sem, ↓reduceIte, reduceCtorEq, Nat.reduceEqDiff, Nat.reduceAdd, Nat.reduceSub, Nat.reduceMul, Nat.reduceLeDiff, Nat.reduceBEq, Int.reduceToNat, Int.reduceNeg, Int.reduceEq, Int.reduceLT, Int.reduceLE, Int.reduceAdd, Int.reduceSub, Int.reduceMul, Int.reduceBEq, Int.reduceBNe, Int.reduceGT, Int.reduceGE, beq_self_eq_true, bne_self_eq_false,  *])))
  all_goals
    refine hG _ ?_
    simp only [Bf.good, *, Bool.and_true, Bool.true_and, Bool.and_false, Bool.false_and, Bool.or_true, Bool.true_or, Bool.or_false, Bool.false_or, Bool.not_true, Bool.not_false, Bool.not_not, cond_true, cond_false]
  simp [List.all_eq_not_any_not]

theorem all_le {xs : List Int} {m : Int} (hm : m ≤ 60) (h : decide ((xs.length : Int) ≤ m) = true) : decide ((xs.length : Int) ≤ 1000) = true := by
  rw [decide_eq_true_iff] at *; omega

theorem s_GoodBuf' (b : Bf) (h1 : b.runes.length ≤ 4611686018427387904) (h2 : b.longs.length ≤ 4611686018427387904) {st : Store} {K : V → Store → Prop} (h : K (.x (.bool b.good)) st) : Spec Proofs.Tryd.prog 30 [.agg b.cells] st K := by
  refine Spec.of_fd fd_spec_GoodBuf rfl ?_
  have hG : ∀ x, b.good = x → K (.x (.bool x)) st := fun x e => by rw [e] at h; exact h
  simp -dsimp -implicitDefEqProofs +contextual (maxSteps := 3000000) (disch := omega) only [go_sem, ↓reduceIte, reduceCtorEq, Nat.reduceEqDiff, Nat.reduceAdd, Nat.reduceSub, Nat.reduceMul, Nat.reduceLeDiff, Nat.reduceBEq, Int.reduceToNat, Int.reduceNeg, Int.reduceEq, Int.reduceLT, Int.reduceLE, Int.reduceAdd, Int.reduceSub, Int.reduceMul, Int.reduceBEq, Int.reduceBNe, Int.reduceGT, Int.reduceGE, beq_self_eq_true, bne_self_eq_false, c_spec_GoodBuf, Bf.cells, V.ints]
  refine s_l1In _ _ _ ?_
  cases hm : inR b.max 1 60 with
  | false =>
    simp -dsimp -implicitDefEqProofs +contextual (maxSteps := 3000000) (disch := omega) only [go_sem, ↓reduceIte, reduceCtorEq, Nat.reduceEqDiff, Nat.reduceAdd, Nat.reduceSub, Nat.reduceMul, Nat.reduceLeDiff, Nat.reduceBEq, Int.reduceToNat, Int.reduceNeg, Int.reduceEq, Int.reduceLT, Int.reduceLE, Int.reduceAdd, Int.reduceSub, Int.reduceMul, Int.reduceBEq, Int.reduceBNe, Int.reduceGT, Int.reduceGE, beq_self_eq_true, bne_self_eq_false]
    exact Fin.pure (Base.refl _) rfl (hG _ (by simp [Bf.good, hm]))
  | true =>
  have hm' : b.max ≤ 60 := by simp [inR] at hm; omega
  simp -dsimp -implicitDefEqProofs +contextual (maxSteps := 3000000) (disch := omega) only [go_sem, ↓reduceIte, reduceCtorEq, Nat.reduceEqDiff, Nat.reduceAdd, Nat.reduceSub, Nat.reduceMul, Nat.reduceLeDiff, Nat.reduceBEq, Int.reduceToNat, Int.reduceNeg, Int.reduceEq, Int.reduceLT, Int.reduceLE, Int.reduceAdd, Int.reduceSub, Int.reduceMul, Int.reduceBEq, Int.reduceBNe, Int.reduceGT, Int.reduceGE, beq_self_eq_true, bne_self_eq_false]
  refine gcase.mk (fun hl => ?_) (fun hl => Fin.pure (Base.refl _) rfl (hG _ (by simp only [Bf.good, hm, hl]; simp)))
  refine s_l1AllRunes _ h1 ?_
  rw [all_le hm' hl]
  simp -dsimp -implicitDefEqProofs +contextual (maxSteps := 3000000) (disch := omega) only [go_sem, ↓reduceIte, reduceCtorEq, Nat.reduceEqDiff, Nat.reduceAdd, Nat.reduceSub, Nat.reduceMul, Nat.reduceLeDiff, Nat.reduceBEq, Int.reduceToNat, Int.reduceNeg, Int.reduceEq, Int.reduceLT, Int.reduceLE, Int.reduceAdd, Int.reduceSub, Int.reduceMul, Int.reduceBEq, Int.reduceBNe, Int.reduceGT, Int.reduceGE, beq_self_eq_true, bne_self_eq_false, hl]
  (repeat' (first | omega | (with_reducible exact rfl) | (with_reducible refine Fin.pure (Base.refl _) rfl ?_) | (with_reducible refine Fin.pure0 rfl ?_) | (with_reducible refine gcase.mk (fun _ => ?_) (fun _ => ?_)) | (with_reducible refine And.intro ?_ ?_) | ((with_reducible refine SpecH.of (s_l1In _ _ _ ?_)); try simp -dsimp -implicitDefEqProofs +contextual (maxSteps := 3000000) (disch := omega) only [go_sem, ↓reduceIte, reduceCtorEq, Nat.reduceEqDiff, Nat.reduceAdd, Nat.reduceSub, Nat.reduceMul, Nat.reduceLeDiff, Nat.reduceBEq, Int.reduceToNat, Int.reduceNeg, Int.reduceEq, Int.reduceLT, Int.reduceLE, Int.reduceAdd, Int.reduceSub, Int.reduceMul, Int.reduceBEq, Int.reduceBNe, Int.reduceGT, Int.reduceGE, beq_self_eq_true, bne_self_eq_false,  *]) | ((with_reducible refine SpecH.of (s_l1All _ _ _ h2 ?_)); try simp -dsimp -implicitDefEqProofs +contextual (maxSteps := 3000000) (disch := omega) only [go_sem, ↓reduceIte, reduceCtorEq, Nat.reduceEqDiff, Nat.reduceAdd, Nat.reduceSub, Nat.reduceMul, Nat.reduceLeDiff, Nat.reduceBEq, Int.reduceToNat, Int.reduceNeg, Int.reduceEq, Int.reduceLT, Int.reduceLE, Int.reduceAdd, Int.reduceSub, Int.reduceMul, Int.reduceBEq, Int.reduceBNe, Int.reduceGT, Int.reduceGE, beq_self_eq_true, bne_self_eq_false,  *])))
  all_goals
    refine hG _ ?_
    simp only [Bf.good, *, Bool.and_true, Bool.true_and, Bool.and_false, Bool.false_and, Bool.or_true, Bool.true_or, Bool.or_false, Bool.false_or, Bool.not_true, Bool.not_false, Bool.not_not, cond_true, cond_false]

def Sess.good (s : Sess) : Bool := s.dec.good && s.buf.good && (!s.eof || s.dec.held.isEmpty)

theorem s_GoodSession (s : Sess) (h0 : s.dec.held.length ≤ 4611686018427387904) (h1 : s.buf.runes.length ≤ 4611686018427387904) (h2 : s.buf.longs.length ≤ 4611686018427387904) {st : Store} {K : V → Store → Prop} (h : K (.x (.bool s.good)) st) : Spec Proofs.Tryd.prog 21 [.agg s.cells] st K := by
  refine Spec.of_fd fd_impl_GoodSession rfl ?_
  have hG : ∀ x, s.good = x → K (.x (.bool x)) st := fun x e => by rw [e] at h; exact h
  simp -dsimp -implicitDefEqProofs +contextual (maxSteps := 3000000) (disch := omega) only [go_sem, ↓reduceIte, reduceCtorEq, Nat.reduceEqDiff, Nat.reduceAdd, Nat.reduceSub, Nat.reduceMul, Nat.reduceLeDiff, Nat.reduceBEq, Int.reduceToNat, Int.reduceNeg, Int.reduceEq, Int.reduceLT, Int.reduceLE, Int.reduceAdd, Int.reduceSub, Int.reduceMul, Int.reduceBEq, Int.reduceBNe, Int.reduceGT, Int.reduceGE, beq_self_eq_true, bne_self_eq_false, c_impl_GoodSession, Sess.cells, Dec.cells, Bf.cells, V.ints]
  refine s_GoodDecoder s.dec h0 ?_
  simp -dsimp -implicitDefEqProofs +contextual (maxSteps := 3000000) (disch := omega) only [go_sem, ↓reduceIte, reduceCtorEq, Nat.reduceEqDiff, Nat.reduceAdd, Nat.reduceSub, Nat.reduceMul, Nat.reduceLeDiff, Nat.reduceBEq, Int.reduceToNat, Int.reduceNeg, Int.reduceEq, Int.reduceLT, Int.reduceLE, Int.reduceAdd, Int.reduceSub, Int.reduceMul, Int.reduceBEq, Int.reduceBNe, Int.reduceGT, Int.reduceGE, beq_self_eq_true, bne_self_eq_false]
  refine gcase.mk (fun hd => s_GoodBuf s.buf h1 h2 ?_) (fun hd => Fin.pure (Base.refl _) rfl (hG _ (by simp [Sess.good, hd])))
  simp -dsimp -implicitDefEqProofs +contextual (maxSteps := 3000000) (disch := omega) only [go_sem, ↓reduceIte, reduceCtorEq, Nat.reduceEqDiff, Nat.reduceAdd, Nat.reduceSub, Nat.reduceMul, Nat.reduceLeDiff, Nat.reduceBEq, Int.reduceToNat, Int.reduceNeg, Int.reduceEq, Int.reduceLT, Int.reduceLE, Int.reduceAdd, Int.reduceSub, Int.reduceMul, Int.reduceBEq, Int.reduceBNe, Int.reduceGT, Int.reduceGE, beq_self_eq_true, bne_self_eq_false, hd]
  (repeat' (first | omega | exact rfl | (refine Fin.pure0 rfl ?_) | (refine Fin.pure (Base.refl _) rfl ?_) | (refine gcase.mk (fun _ => ?_) (fun _ => ?_)) | (refine And.intro ?_ ?_)))
  all_goals
    refine hG _ ?_
    simp only [Sess.good, *, Bool.and_true, Bool.true_and, Bool.and_false, Bool.false_and, Bool.or_true, Bool.true_or, Bool.or_false, Bool.false_or, Bool.not_true, Bool.not_false, Bool.not_not, cond_true, cond_false]

theorem s_GoodSession' (s : Sess) (h0 : s.dec.held.length ≤ 4611686018427387904) (h1 : s.buf.runes.length ≤ 4611686018427387904) (h2 : s.buf.longs.length ≤ 4611686018427387904) {st : Store} {K : V → Store → Prop} (h : K (.x (.bool s.good)) st) : Spec Proofs.Tryd.prog 16 [.agg s.cells] st K := by
  refine Spec.of_fd fd_spec_GoodSession rfl ?_
  have hG : ∀ x, s.good = x → K (.x (.bool x)) st := fun x e => by rw [e] at h; exact h
  simp -dsimp -implicitDefEqProofs +contextual (maxSteps := 3000000) (disch := omega) only [go_sem, ↓reduceIte, reduceCtorEq, Nat.reduceEqDiff, Nat.reduceAdd, Nat.reduceSub, Nat.reduceMul, Nat.reduceLeDiff, Nat.reduceBEq, Int.reduceToNat, Int.reduceNeg, Int.reduceEq, Int.reduceLT, Int.reduceLE, Int.reduceAdd, Int.reduceSub, Int.reduceMul, Int.reduceBEq, Int.reduceBNe, Int.reduceGT, Int.reduceGE, beq_self_eq_true, bne_self_eq_false, c_spec_GoodSession, Sess.cells, Dec.cells, Bf.cells, V.ints]
  refine s_GoodDecoder' s.dec h0 ?_
  simp -dsimp -implicitDefEqProofs +contextual (maxSteps := 3000000) (disch := omega) only [go_sem, ↓reduceIte, reduceCtorEq, Nat.reduceEqDiff, Nat.reduceAdd, Nat.reduceSub, Nat.reduceMul, Nat.reduceLeDiff, Nat.reduceBEq, Int.reduceToNat, Int.reduceNeg, Int.reduceEq, Int.reduceLT, Int.reduceLE, Int.reduceAdd, Int.reduceSub, Int.reduceMul, Int.reduceBEq, Int.reduceBNe, Int.reduceGT, Int.reduceGE, beq_self_eq_true, bne_self_eq_false]
  refine gcase.mk (fun hd => s_GoodBuf' s.buf h1 h2 ?_) (fun hd => Fin.pure (Base.refl _) rfl (hG _ (by simp [Sess.good, hd])))
  simp -dsimp -implicitDefEqProofs +contextual (maxSteps := 3000000) (disch := omega) only [go_sem, ↓reduceIte, reduceCtorEq, Nat.reduceEqDiff, Nat.reduceAdd, Nat.reduceSub, Nat.reduceMul, Nat.reduceLeDiff, Nat.reduceBEq, Int.reduceToNat, Int.reduceNeg, Int.reduceEq, Int.reduceLT, Int.reduceLE, Int.reduceAdd, Int.reduceSub, Int.reduceMul, Int.reduceBEq, Int.reduceBNe, Int.reduceGT, Int.reduceGE, beq_self_eq_true, bne_self_eq_false, hd]
  (repeat' (first | omega | exact rfl | (refine Fin.pure0 rfl ?_) | (refine Fin.pure (Base.refl _) rfl ?_) | (refine gcase.mk (fun _ => ?_) (fun _ => ?_)) | (refine And.intro ?_ ?_)))
  all_goals
    refine hG _ ?_
    simp only [Sess.good, *, Bool.and_true, Bool.true_and, Bool.and_false, Bool.false_and, Bool.or_true, Bool.true_or, Bool.or_false, Bool.false_or, Bool.not_true, Bool.not_false, Bool.not_not, cond_true, cond_false]

end Go.VS
