/- Contracts: sizes, comparisons of buffers and sessions. -/
import Derived.Test.YtjklhbmkajabdaaDoorF5
set_option linter.all false
namespace Go.VS
open Go Go.RowKit
set_option maxRecDepth 10000

structure Bf where
  max : Int
  runes : List Int
  longs : List Int
  gone : Int

def Bf.cells (b : Bf) : List V := [.x (.int .i64 b.max), V.ints b.runes, V.ints b.longs, .x (.int .i64 b.gone)]

structure Sess where
  dec : Dec
  buf : Bf
  eof : Bool

def Sess.cells (s : Sess) : List V := s.dec.cells ++ s.buf.cells ++ [.x (.bool s.eof)]

def Dec.beq (a b : Dec) : Bool := a.en == b.en && a.shift == b.shift && a.loose == b.loose && a.held == b.held
def Bf.beq (a b : Bf) : Bool := a.max == b.max && a.runes == b.runes && a.longs == b.longs && a.gone == b.gone
def Sess.beq (a b : Sess) : Bool := a.dec.beq b.dec && a.buf.beq b.buf && a.eof == b.eof

def small (n : Nat) : Prop := n ≤ 4611686018427387904

theorem s_eqBuf (a b : Bf) (h1 : a.runes.length ≤ 4611686018427387904) (h2 : a.longs.length ≤ 4611686018427387904) {st : Store} {K : V → Store → Prop} (h : K (.x (.bool (a.beq b))) st) :
    Spec Proofs.Tryd.prog 25 [.agg a.cells, .agg b.cells] st K := by
  refine Spec.of_fd fd_laws_eqBuf rfl ?_
  simp -dsimp -implicitDefEqProofs +contextual (maxSteps := 3000000) (disch := omega) only [go_sem, ↓reduceIte, reduceCtorEq, Nat.reduceEqDiff, Nat.reduceAdd, Nat.reduceSub, Nat.reduceMul, Nat.reduceLeDiff, Nat.reduceBEq, Int.reduceToNat, Int.reduceNeg, Int.reduceEq, Int.reduceLT, Int.reduceLE, Int.reduceAdd, Int.reduceSub, Int.reduceMul, Int.reduceBEq, Int.reduceBNe, Int.reduceGT, Int.reduceGE, beq_self_eq_true, bne_self_eq_false, c_laws_eqBuf, Bf.cells, V.ints]
  refine ⟨fun e1 => Fin.pure (Base.refl _) rfl ?_, fun e1 => s_eqIntS _ _ h1 ?_⟩
  · simp only [bne, Bool.not_eq_true', Bool.not_eq_false'] at *; simp_all [Bf.beq]
  simp -dsimp -implicitDefEqProofs +contextual (maxSteps := 3000000) (disch := omega) only [go_sem, ↓reduceIte, reduceCtorEq, Nat.reduceEqDiff, Nat.reduceAdd, Nat.reduceSub, Nat.reduceMul, Nat.reduceLeDiff, Nat.reduceBEq, Int.reduceToNat, Int.reduceNeg, Int.reduceEq, Int.reduceLT, Int.reduceLE, Int.reduceAdd, Int.reduceSub, Int.reduceMul, Int.reduceBEq, Int.reduceBNe, Int.reduceGT, Int.reduceGE, beq_self_eq_true, bne_self_eq_false]
  refine ⟨fun e2 => s_eqIntS _ _ h2 ?_, fun e2 => Fin.pure (Base.refl _) rfl ?_⟩
  · simp -dsimp -implicitDefEqProofs +contextual (maxSteps := 3000000) (disch := omega) only [go_sem, ↓reduceIte, reduceCtorEq, Nat.reduceEqDiff, Nat.reduceAdd, Nat.reduceSub, Nat.reduceMul, Nat.reduceLeDiff, Nat.reduceBEq, Int.reduceToNat, Int.reduceNeg, Int.reduceEq, Int.reduceLT, Int.reduceLE, Int.reduceAdd, Int.reduceSub, Int.reduceMul, Int.reduceBEq, Int.reduceBNe, Int.reduceGT, Int.reduceGE, beq_self_eq_true, bne_self_eq_false]
    refine ⟨fun e3 => ⟨fun e4 => Fin.pure (Base.refl _) rfl ?_, fun e4 => Fin.pure (Base.refl _) rfl ?_⟩, fun e3 => Fin.pure (Base.refl _) rfl ?_⟩
    all_goals (simp only [bne, Bool.not_eq_true', Bool.not_eq_false'] at *; simp_all [Bf.beq])
  · simp only [bne, Bool.not_eq_true', Bool.not_eq_false'] at *; simp_all [Bf.beq]

theorem s_eqDec (a b : Dec) {st : Store} {K : V → Store → Prop} (h : K (.x (.bool (a.beq b))) st) : Spec Proofs.Tryd.prog 24 [.agg a.cells, .agg b.cells] st K := s_eqDecoder a b h

theorem s_eqSession (a b : Sess) (h1 : a.buf.runes.length ≤ 4611686018427387904) (h2 : a.buf.longs.length ≤ 4611686018427387904) {st : Store} {K : V → Store → Prop} (h : K (.x (.bool (a.beq b))) st) :
    Spec Proofs.Tryd.prog 8 [.agg a.cells, .agg b.cells] st K := by
  refine Spec.of_fd fd_laws_eqSession rfl ?_
  simp -dsimp -implicitDefEqProofs +contextual (maxSteps := 3000000) (disch := omega) only [go_sem, ↓reduceIte, reduceCtorEq, Nat.reduceEqDiff, Nat.reduceAdd, Nat.reduceSub, Nat.reduceMul, Nat.reduceLeDiff, Nat.reduceBEq, Int.reduceToNat, Int.reduceNeg, Int.reduceEq, Int.reduceLT, Int.reduceLE, Int.reduceAdd, Int.reduceSub, Int.reduceMul, Int.reduceBEq, Int.reduceBNe, Int.reduceGT, Int.reduceGE, beq_self_eq_true, bne_self_eq_false, c_laws_eqSession, Sess.cells, Bf.cells, Dec.cells, V.ints]
  refine s_eqDec a.dec b.dec ?_
  simp -dsimp -implicitDefEqProofs +contextual (maxSteps := 3000000) (disch := omega) only [go_sem, ↓reduceIte, reduceCtorEq, Nat.reduceEqDiff, Nat.reduceAdd, Nat.reduceSub, Nat.reduceMul, Nat.reduceLeDiff, Nat.reduceBEq, Int.reduceToNat, Int.reduceNeg, Int.reduceEq, Int.reduceLT, Int.reduceLE, Int.reduceAdd, Int.reduceSub, Int.reduceMul, Int.reduceBEq, Int.reduceBNe, Int.reduceGT, Int.reduceGE, beq_self_eq_true, bne_self_eq_false]
  refine ⟨fun e1 => ?_, fun e1 => Fin.pure (Base.refl _) rfl ?_⟩
  · refine s_eqBuf a.buf b.buf h1 h2 ?_
    simp -dsimp -implicitDefEqProofs +contextual (maxSteps := 3000000) (disch := omega) only [go_sem, ↓reduceIte, reduceCtorEq, Nat.reduceEqDiff, Nat.reduceAdd, Nat.reduceSub, Nat.reduceMul, Nat.reduceLeDiff, Nat.reduceBEq, Int.reduceToNat, Int.reduceNeg, Int.reduceEq, Int.reduceLT, Int.reduceLE, Int.reduceAdd, Int.reduceSub, Int.reduceMul, Int.reduceBEq, Int.reduceBNe, Int.reduceGT, Int.reduceGE, beq_self_eq_true, bne_self_eq_false]
    refine ⟨fun e2 => ⟨fun e3 => Fin.pure (Base.refl _) rfl ?_, fun e3 => Fin.pure (Base.refl _) rfl ?_⟩, fun e2 => Fin.pure (Base.refl _) rfl ?_⟩
    all_goals simp_all [Sess.beq]
  · simp_all [Sess.beq]

end Go.VS
