/- Contracts: copies of decoders, buffers, sessions. -/
import Derived.Test.YtjklhbmkajabdaaDoorF7
set_option linter.all false
namespace Go.VS
open Go Go.RowKit
set_option maxRecDepth 10000

theorem s_toDecoder (a : Dec) {st : Store} {K : V → Store → Prop} (h : K (.agg a.cells) st) : Spec Proofs.Tryd.prog 19 [.agg a.cells] st K := by
  refine Spec.of_fd fd_laws_toDecoder rfl ?_
  simp -dsimp -implicitDefEqProofs +contextual (maxSteps := 3000000) (disch := omega) only [go_sem, ↓reduceIte, reduceCtorEq, Nat.reduceEqDiff, Nat.reduceAdd, Nat.reduceSub, Nat.reduceMul, Nat.reduceLeDiff, Nat.reduceBEq, Int.reduceToNat, Int.reduceNeg, Int.reduceEq, Int.reduceLT, Int.reduceLE, Int.reduceAdd, Int.reduceSub, Int.reduceMul, Int.reduceBEq, Int.reduceBNe, Int.reduceGT, Int.reduceGE, beq_self_eq_true, bne_self_eq_false, c_laws_toDecoder, Dec.cells]
  exact Fin.pure (Base.refl _) rfl h

theorem s_toBuf (b : Bf) (h1 : b.runes.length ≤ 4194304) (h2 : b.longs.length ≤ 4194304) {st : Store} {K : V → Store → Prop}
    (h : K (.agg [.x (.int .i64 b.max), .ref st.length 0 0 b.runes.length, .ref (st.length + 1) 0 0 b.longs.length, .x (.int .i64 b.gone)]) (st ++ [⟨2, 0, 1, icells b.runes⟩, ⟨2, 0, 1, icells b.longs⟩])) :
    Spec Proofs.Tryd.prog 20 [.agg b.cells] st K := by
  refine Spec.of_fd fd_laws_toBuf rfl ?_
  simp -dsimp -implicitDefEqProofs +contextual (maxSteps := 3000000) (disch := omega) only [go_sem, ↓reduceIte, reduceCtorEq, Nat.reduceEqDiff, Nat.reduceAdd, Nat.reduceSub, Nat.reduceMul, Nat.reduceLeDiff, Nat.reduceBEq, Int.reduceToNat, Int.reduceNeg, Int.reduceEq, Int.reduceLT, Int.reduceLE, Int.reduceAdd, Int.reduceSub, Int.reduceMul, Int.reduceBEq, Int.reduceBNe, Int.reduceGT, Int.reduceGE, beq_self_eq_true, bne_self_eq_false, c_laws_toBuf, Bf.cells, V.ints]
  refine s_toIntS _ h1 ?_
  simp -dsimp -implicitDefEqProofs +contextual (maxSteps := 3000000) (disch := omega) only [go_sem, ↓reduceIte, reduceCtorEq, Nat.reduceEqDiff, Nat.reduceAdd, Nat.reduceSub, Nat.reduceMul, Nat.reduceLeDiff, Nat.reduceBEq, Int.reduceToNat, Int.reduceNeg, Int.reduceEq, Int.reduceLT, Int.reduceLE, Int.reduceAdd, Int.reduceSub, Int.reduceMul, Int.reduceBEq, Int.reduceBNe, Int.reduceGT, Int.reduceGE, beq_self_eq_true, bne_self_eq_false, V.ints]
  refine s_toIntS _ h2 ?_
  simp -dsimp -implicitDefEqProofs +contextual (maxSteps := 3000000) (disch := omega) only [go_sem, ↓reduceIte, reduceCtorEq, Nat.reduceEqDiff, Nat.reduceAdd, Nat.reduceSub, Nat.reduceMul, Nat.reduceLeDiff, Nat.reduceBEq, Int.reduceToNat, Int.reduceNeg, Int.reduceEq, Int.reduceLT, Int.reduceLE, Int.reduceAdd, Int.reduceSub, Int.reduceMul, Int.reduceBEq, Int.reduceBNe, Int.reduceGT, Int.reduceGE, beq_self_eq_true, bne_self_eq_false, V.ints]
  refine Fin.sel (Base.refl _) [3, 4] [⟨2, 0, 1, icells b.runes⟩, ⟨2, 0, 1, icells b.longs⟩] rfl (by simp) (by decide) ?_
  simp -dsimp -implicitDefEqProofs +contextual (maxSteps := 3000000) (disch := omega) only [go_sem, ↓reduceIte, reduceCtorEq, Nat.reduceEqDiff, Nat.reduceAdd, Nat.reduceSub, Nat.reduceMul, Nat.reduceLeDiff, Nat.reduceBEq, Int.reduceToNat, Int.reduceNeg, Int.reduceEq, Int.reduceLT, Int.reduceLE, Int.reduceAdd, Int.reduceSub, Int.reduceMul, Int.reduceBEq, Int.reduceBNe, Int.reduceGT, Int.reduceGE, beq_self_eq_true, bne_self_eq_false]
  exact h

/-- A session whose lists lie in blocks of the call's own, from m on. -/
def Sess.own (s : Sess) (m : Nat) : V := .agg (s.dec.cells ++ [.x (.int .i64 s.buf.max), .ref m 0 0 s.buf.runes.length, .ref (m + 1) 0 0 s.buf.longs.length, .x (.int .i64 s.buf.gone), .x (.bool s.eof)])
def Sess.blks (s : Sess) : Store := [⟨2, 0, 1, icells s.buf.runes⟩, ⟨2, 0, 1, icells s.buf.longs⟩]

theorem s_toSession (s : Sess) (h1 : s.buf.runes.length ≤ 4194304) (h2 : s.buf.longs.length ≤ 4194304) {st : Store} {K : V → Store → Prop} (h : K (s.own st.length) (st ++ s.blks)) :
    Spec Proofs.Tryd.prog 6 [.agg s.cells] st K := by
  refine Spec.of_fd fd_laws_toSession rfl ?_
  simp -dsimp -implicitDefEqProofs +contextual (maxSteps := 3000000) (disch := omega) only [go_sem, ↓reduceIte, reduceCtorEq, Nat.reduceEqDiff, Nat.reduceAdd, Nat.reduceSub, Nat.reduceMul, Nat.reduceLeDiff, Nat.reduceBEq, Int.reduceToNat, Int.reduceNeg, Int.reduceEq, Int.reduceLT, Int.reduceLE, Int.reduceAdd, Int.reduceSub, Int.reduceMul, Int.reduceBEq, Int.reduceBNe, Int.reduceGT, Int.reduceGE, beq_self_eq_true, bne_self_eq_false, c_laws_toSession, Sess.cells, Bf.cells, Dec.cells, V.ints]
  refine s_toDecoder s.dec ?_
  simp -dsimp -implicitDefEqProofs +contextual (maxSteps := 3000000) (disch := omega) only [go_sem, ↓reduceIte, reduceCtorEq, Nat.reduceEqDiff, Nat.reduceAdd, Nat.reduceSub, Nat.reduceMul, Nat.reduceLeDiff, Nat.reduceBEq, Int.reduceToNat, Int.reduceNeg, Int.reduceEq, Int.reduceLT, Int.reduceLE, Int.reduceAdd, Int.reduceSub, Int.reduceMul, Int.reduceBEq, Int.reduceBNe, Int.reduceGT, Int.reduceGE, beq_self_eq_true, bne_self_eq_false, Dec.cells]
  refine s_toBuf s.buf h1 h2 ?_
  simp -dsimp -implicitDefEqProofs +contextual (maxSteps := 3000000) (disch := omega) only [go_sem, ↓reduceIte, reduceCtorEq, Nat.reduceEqDiff, Nat.reduceAdd, Nat.reduceSub, Nat.reduceMul, Nat.reduceLeDiff, Nat.reduceBEq, Int.reduceToNat, Int.reduceNeg, Int.reduceEq, Int.reduceLT, Int.reduceLE, Int.reduceAdd, Int.reduceSub, Int.reduceMul, Int.reduceBEq, Int.reduceBNe, Int.reduceGT, Int.reduceGE, beq_self_eq_true, bne_self_eq_false]
  refine Fin.sel (Base.refl _) [3, 4] s.blks rfl (by simp [Sess.blks]) (by decide) ?_
  simp -dsimp -implicitDefEqProofs +contextual (maxSteps := 3000000) (disch := omega) only [go_sem, ↓reduceIte, reduceCtorEq, Nat.reduceEqDiff, Nat.reduceAdd, Nat.reduceSub, Nat.reduceMul, Nat.reduceLeDiff, Nat.reduceBEq, Int.reduceToNat, Int.reduceNeg, Int.reduceEq, Int.reduceLT, Int.reduceLE, Int.reduceAdd, Int.reduceSub, Int.reduceMul, Int.reduceBEq, Int.reduceBNe, Int.reduceGT, Int.reduceGE, beq_self_eq_true, bne_self_eq_false, Sess.blks]
  exact h

end Go.VS
