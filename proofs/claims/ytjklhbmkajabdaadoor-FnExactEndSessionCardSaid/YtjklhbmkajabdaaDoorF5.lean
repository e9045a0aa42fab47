/- Contracts: decoders, buffers, sessions. -/
import Derived.Test.YtjklhbmkajabdaaDoorF4
set_option linter.all false
namespace Go.VS
open Go Go.RowKit
set_option maxRecDepth 10000

structure Dec where
  en : Int
  shift : Int
  loose : Int
  held : List UInt8

/-- A text's bytes as the model's. -/
def bytes (s : List UInt8) : ByteArray := ⟨s.toArray⟩

theorem bytes_toList (s : List UInt8) : (bytes s).toList = s := by
  rw [ByteArray.toList_eq]; rfl

def Dec.cells (d : Dec) : List V := [.x (.int .i64 d.en), .x (.int .i64 d.shift), .x (.int .i64 d.loose), .x (.string (bytes d.held))]

theorem s_eqDecoder (a b : Dec) {st : Store} {K : V → Store → Prop} (h : K (.x (.bool (a.en == b.en && a.shift == b.shift && a.loose == b.loose && a.held == b.held))) st) :
    Spec Proofs.Tryd.prog 24 [.agg a.cells, .agg b.cells] st K := by
  refine Spec.of_fd fd_laws_eqDecoder rfl ?_
  simp -dsimp -implicitDefEqProofs +contextual (maxSteps := 3000000) (disch := omega) only [go_sem, ↓reduceIte, reduceCtorEq, Nat.reduceEqDiff, Nat.reduceAdd, Nat.reduceSub, Nat.reduceMul, Nat.reduceLeDiff, Nat.reduceBEq, Int.reduceToNat, Int.reduceNeg, Int.reduceEq, Int.reduceLT, Int.reduceLE, Int.reduceAdd, Int.reduceSub, Int.reduceMul, Int.reduceBEq, Int.reduceBNe, Int.reduceGT, Int.reduceGE, beq_self_eq_true, bne_self_eq_false, c_laws_eqDecoder, Dec.cells]
  have hb : ((bytes a.held).toList == (bytes b.held).toList) = (a.held == b.held) := by simp [bytes_toList]
  rw [hb]
  refine ⟨fun h1 => Fin.pure (Base.refl _) rfl ?_, fun h1 => ⟨fun h2 => Fin.pure (Base.refl _) rfl ?_, fun h2 => ⟨fun h3 => Fin.pure (Base.refl _) rfl ?_, fun h3 => ⟨fun h4 => Fin.pure (Base.refl _) rfl ?_, fun h4 => Fin.pure (Base.refl _) rfl ?_⟩⟩⟩⟩
  all_goals (simp only [bne, Bool.not_eq_true', Bool.not_eq_false'] at *; simp_all)

end Go.VS
