/- Contracts: buffers: their bytes; what is let go. -/
import Derived.Test.YtjklhbmkajabdaaDoorF13
set_option linter.all false
namespace Go.VS
open Go Go.RowKit
set_option maxRecDepth 10000

theorem ints_slice (xs : List Int) (l h : Nat) (hl : l ≤ h) (hh : h ≤ xs.length) : V.sl (h - l) 1 (cut (h - l) 1 fun i => intsF xs (l + i)) = V.ints ((xs.take h).drop l) := by
  have e : ((xs.take h).drop l).length = h - l := by simp; omega
  unfold V.ints
  rw [e]
  congr 1
  funext i j
  unfold intsF cut
  rw [e]
  by_cases hc : i < h - l ∧ j < 1
  · rw [if_pos hc, if_pos hc]
    show (if l + i < xs.length ∧ j < 1 then V.x (Value.int IntKind.i64 (xs.getD (l + i) 0)) else V.bad) = _
    rw [if_pos (show l + i < xs.length ∧ j < 1 by omega)]
    show V.x (Value.int IntKind.i64 (xs.getD (l + i) 0)) = V.x (Value.int IntKind.i64 (((xs.take h).drop l).getD i 0))
    have : ((xs.take h).drop l).getD i 0 = xs.getD (l + i) 0 := by
      simp only [List.getD_eq_getElem?_getD, List.getElem?_drop]
      rw [List.getElem?_take_of_lt (by omega)]
    rw [this]
  · rw [if_neg hc, if_neg hc]

/-- A part of a list of numbers. -/
@[go_sem high] theorem slH_ints {P : Program} {st : Store} {t : Nat} {xs : List Int} {lo hi : Option V} {K : V → Prop} {u : Tag K} : slH P st t (.sl xs.length 1 (intsF xs)) lo hi K u = (((el P t).bind (inf P)).map (·.1) = some 1 ∧ optW (bdW 0 lo) fun l => optW (bdW xs.length hi) fun h =>
    0 ≤ l ∧ l ≤ h ∧ h ≤ xs.length ∧ K (V.ints ((xs.take h.toNat).drop l.toNat))) := by
  rw [slW_sl]
  congr 1
  unfold optW
  cases bdW 0 lo with
  | none => rfl
  | some l =>
    cases bdW xs.length hi with
    | none => rfl
    | some h =>
      simp only
      apply propext
      constructor
      · rintro ⟨h1, h2, h3, h4⟩
        refine ⟨h1, h2, h3, ?_⟩
        rw [← ints_slice xs l.toNat h.toNat (by omega) (by omega), show h.toNat - l.toNat = (h - l).toNat by omega]
        exact h4
      · rintro ⟨h1, h2, h3, h4⟩
        refine ⟨h1, h2, h3, ?_⟩
        rw [← ints_slice xs l.toNat h.toNat (by omega) (by omega), show h.toNat - l.toNat = (h - l).toNat by omega] at h4
        exact h4
attribute [go_sem] List.take_length

theorem s_bytes (b : Bf) (k : Nat) (hk : k ≤ b.longs.length) (hn : b.longs.length ≤ 4294967296) (hg : 0 ≤ b.gone ∧ b.gone ≤ 4294967296) (hb : ∀ x ∈ b.longs, 1 ≤ x ∧ x ≤ 1000) {st : Store} {K : V → Store → Prop} (h : K (.x (.int .i64 (b.gone + isum (b.longs.take k)))) st) :
    Spec Proofs.Tryd.prog 70 [.agg b.cells, .x (.int .i64 k)] st K := by
  refine Spec.of_fd fd_impl_Buf_bytes rfl ?_
  simp -dsimp -implicitDefEqProofs +contextual (maxSteps := 3000000) (disch := omega) only [go_sem, ↓reduceIte, reduceCtorEq, Nat.reduceEqDiff, Nat.reduceAdd, Nat.reduceSub, Nat.reduceMul, Nat.reduceLeDiff, Nat.reduceBEq, Int.reduceToNat, Int.reduceNeg, Int.reduceEq, Int.reduceLT, Int.reduceLE, Int.reduceAdd, Int.reduceSub, Int.reduceMul, Int.reduceBEq, Int.reduceBNe, Int.reduceGT, Int.reduceGE, beq_self_eq_true, bne_self_eq_false, c_impl_Buf_bytes, Bf.cells, V.ints]
  refine ⟨by omega, by omega, ?_⟩
  have hys : ∀ x ∈ b.longs.take k, 1 ≤ x ∧ x ≤ 1000 := fun x hx => hb x (List.mem_of_mem_take hx)
  have hyn : (b.longs.take k).length ≤ 4294967296 := by simp; omega
  generalize b.longs.take k = ys at *
  refine LoopC.intro (fun n ρ st' => ∃ i : Nat, n = ys.length - i ∧ i ≤ ys.length ∧ st' = st ∧ lk ρ 13 = .sl ys.length 1 (intsF ys) ∧ lk ρ 14 = .x (.int .i64 ys.length) ∧ lk ρ 15 = .x (.int .i64 i) ∧ lk ρ 5 = .x (.int .i64 (b.gone + isum (ys.take i)))) ys.length
    (Weak.drop (Weak.refl ⟨0, rfl, by omega, rfl, ?_⟩)) ?_
  · simp -dsimp -implicitDefEqProofs +contextual (maxSteps := 3000000) (disch := omega) only [go_sem, ↓reduceIte, reduceCtorEq, Nat.reduceEqDiff, Nat.reduceAdd, Nat.reduceSub, Nat.reduceMul, Nat.reduceLeDiff, Nat.reduceBEq, Int.reduceToNat, Int.reduceNeg, Int.reduceEq, Int.reduceLT, Int.reduceLE, Int.reduceAdd, Int.reduceSub, Int.reduceMul, Int.reduceBEq, Int.reduceBNe, Int.reduceGT, Int.reduceGE, beq_self_eq_true, bne_self_eq_false]
    simp [isum]
  rintro n ρ st' ⟨i, rfl, hi', rfl, h13, h14, h15, h5⟩
  simp -dsimp -implicitDefEqProofs +contextual (maxSteps := 3000000) (disch := omega) only [go_sem, ↓reduceIte, reduceCtorEq, Nat.reduceEqDiff, Nat.reduceAdd, Nat.reduceSub, Nat.reduceMul, Nat.reduceLeDiff, Nat.reduceBEq, Int.reduceToNat, Int.reduceNeg, Int.reduceEq, Int.reduceLT, Int.reduceLE, Int.reduceAdd, Int.reduceSub, Int.reduceMul, Int.reduceBEq, Int.reduceBNe, Int.reduceGT, Int.reduceGE, beq_self_eq_true, bne_self_eq_false, h13, h14, h15, h5]
  refine gcase.dec (fun hlt => ?_) (fun hge => ?_)
  · have hlt' : i < ys.length := by omega
    have hs1 := isum_bd (xs := ys.take i) fun x hx => hys x (List.mem_of_mem_take hx)
    have hl1 : (ys.take i).length = i := by simp; omega
    have hv := hys (ys.getD i 0) (by simp [hlt'])
    rw [intsF_lt hlt']
    simp -dsimp -implicitDefEqProofs +contextual (maxSteps := 3000000) (disch := omega) only [go_sem, ↓reduceIte, reduceCtorEq, Nat.reduceEqDiff, Nat.reduceAdd, Nat.reduceSub, Nat.reduceMul, Nat.reduceLeDiff, Nat.reduceBEq, Int.reduceToNat, Int.reduceNeg, Int.reduceEq, Int.reduceLT, Int.reduceLE, Int.reduceAdd, Int.reduceSub, Int.reduceMul, Int.reduceBEq, Int.reduceBNe, Int.reduceGT, Int.reduceGE, beq_self_eq_true, bne_self_eq_false, h5, h15]
    rw [hl1] at hs1
    simp (disch := omega) only [wrap_i64, IntWalk.u8_in, Int.tdiv_eq_ediv_of_nonneg, Int.tmod_eq_emod_of_nonneg]
    refine ⟨by omega, hlt, by omega, loopE.go (ys.length - (i + 1)) (by omega) (Weak.refl ⟨i + 1, rfl, by omega, rfl, ?_⟩)⟩
    simp -dsimp -implicitDefEqProofs +contextual (maxSteps := 3000000) (disch := omega) only [go_sem, ↓reduceIte, reduceCtorEq, Nat.reduceEqDiff, Nat.reduceAdd, Nat.reduceSub, Nat.reduceMul, Nat.reduceLeDiff, Nat.reduceBEq, Int.reduceToNat, Int.reduceNeg, Int.reduceEq, Int.reduceLT, Int.reduceLE, Int.reduceAdd, Int.reduceSub, Int.reduceMul, Int.reduceBEq, Int.reduceBNe, Int.reduceGT, Int.reduceGE, beq_self_eq_true, bne_self_eq_false, h13, h14]
    rw [take_at hlt', isum_snoc]
    exact ⟨by simp, by rw [Int.add_assoc]⟩
  · have : i = ys.length := by omega
    subst this
    rw [List.take_length]
    exact Fin.pure0 rfl h

end Go.VS
