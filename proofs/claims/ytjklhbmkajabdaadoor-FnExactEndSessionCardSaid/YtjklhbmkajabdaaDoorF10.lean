/- Contracts: codes, units. -/
import Derived.Test.YtjklhbmkajabdaaDoorF9
import Derived.IntWalk
set_option linter.all false
namespace Go.VS
open Go Go.RowKit
set_option maxRecDepth 10000

@[go_sem] theorem bytes_data (s : List UInt8) : (bytes s).data.toList = s := rfl
@[go_sem] theorem bytes_size (s : List UInt8) : (bytes s).size = s.length := by simp [bytes, ByteArray.size]
theorem bytes_extract (s : List UInt8) (i j : Nat) : (bytes s).extract i j = bytes ((s.take j).drop i) := by
  apply ByteArray.ext
  simp [bytes, ByteArray.data_extract, List.drop_take]
theorem bytes_append (a b : List UInt8) : bytes a ++ bytes b = bytes (a ++ b) := by
  apply ByteArray.ext
  simp [bytes]
attribute [go_sem] bytes_toList
@[go_sem] theorem nil_toList : ByteArray.toList ⟨#[]⟩ = [] := by rw [ByteArray.toList_eq]
theorem s_isCode (n : Int) {st : Store} {K : V → Store → Prop} (h : K (.x (.bool (inR n 1 5))) st) : Spec Proofs.Tryd.prog 47 [.x (.int .i64 n)] st K := by
  refine Spec.of_fd fd_impl_isCode rfl ?_
  simp -dsimp -implicitDefEqProofs +contextual (maxSteps := 3000000) (disch := omega) only [go_sem, ↓reduceIte, reduceCtorEq, Nat.reduceEqDiff, Nat.reduceAdd, Nat.reduceSub, Nat.reduceMul, Nat.reduceLeDiff, Nat.reduceBEq, Int.reduceToNat, Int.reduceNeg, Int.reduceEq, Int.reduceLT, Int.reduceLE, Int.reduceAdd, Int.reduceSub, Int.reduceMul, Int.reduceBEq, Int.reduceBNe, Int.reduceGT, Int.reduceGE, beq_self_eq_true, bne_self_eq_false, c_impl_isCode]
  refine s_inRange _ _ _ ?_
  simp -dsimp -implicitDefEqProofs +contextual (maxSteps := 3000000) (disch := omega) only [go_sem, ↓reduceIte, reduceCtorEq, Nat.reduceEqDiff, Nat.reduceAdd, Nat.reduceSub, Nat.reduceMul, Nat.reduceLeDiff, Nat.reduceBEq, Int.reduceToNat, Int.reduceNeg, Int.reduceEq, Int.reduceLT, Int.reduceLE, Int.reduceAdd, Int.reduceSub, Int.reduceMul, Int.reduceBEq, Int.reduceBNe, Int.reduceGT, Int.reduceGE, beq_self_eq_true, bne_self_eq_false]
  exact Fin.pure0 rfl h

theorem s_l2Code (n : Int) {st : Store} {K : V → Store → Prop} (h : K (.x (.bool (inR n 1 5))) st) : Spec Proofs.Tryd.prog 39 [.x (.int .i64 n)] st K := by
  refine Spec.of_fd fd_spec_l2Code rfl ?_
  simp -dsimp -implicitDefEqProofs +contextual (maxSteps := 3000000) (disch := omega) only [go_sem, ↓reduceIte, reduceCtorEq, Nat.reduceEqDiff, Nat.reduceAdd, Nat.reduceSub, Nat.reduceMul, Nat.reduceLeDiff, Nat.reduceBEq, Int.reduceToNat, Int.reduceNeg, Int.reduceEq, Int.reduceLT, Int.reduceLE, Int.reduceAdd, Int.reduceSub, Int.reduceMul, Int.reduceBEq, Int.reduceBNe, Int.reduceGT, Int.reduceGE, beq_self_eq_true, bne_self_eq_false, c_spec_l2Code]
  refine s_l1In _ _ _ ?_
  simp -dsimp -implicitDefEqProofs +contextual (maxSteps := 3000000) (disch := omega) only [go_sem, ↓reduceIte, reduceCtorEq, Nat.reduceEqDiff, Nat.reduceAdd, Nat.reduceSub, Nat.reduceMul, Nat.reduceLeDiff, Nat.reduceBEq, Int.reduceToNat, Int.reduceNeg, Int.reduceEq, Int.reduceLT, Int.reduceLE, Int.reduceAdd, Int.reduceSub, Int.reduceMul, Int.reduceBEq, Int.reduceBNe, Int.reduceGT, Int.reduceGE, beq_self_eq_true, bne_self_eq_false]
  exact Fin.pure0 rfl h

def unitsC (n : Int) : Bool := n == 2 || n == 3

theorem s_isUnits (n : Int) {st : Store} {K : V → Store → Prop} (h : K (.x (.bool (unitsC n))) st) : Spec Proofs.Tryd.prog 50 [.x (.int .i64 n)] st K := by
  refine Spec.of_fd fd_impl_isUnits rfl ?_
  simp -dsimp -implicitDefEqProofs +contextual (maxSteps := 3000000) (disch := omega) only [go_sem, ↓reduceIte, reduceCtorEq, Nat.reduceEqDiff, Nat.reduceAdd, Nat.reduceSub, Nat.reduceMul, Nat.reduceLeDiff, Nat.reduceBEq, Int.reduceToNat, Int.reduceNeg, Int.reduceEq, Int.reduceLT, Int.reduceLE, Int.reduceAdd, Int.reduceSub, Int.reduceMul, Int.reduceBEq, Int.reduceBNe, Int.reduceGT, Int.reduceGE, beq_self_eq_true, bne_self_eq_false, c_impl_isUnits]
  refine ⟨fun h1 => Fin.pure0 rfl (by simpa [unitsC, h1] using h), fun h1 => Fin.pure0 rfl (by simpa [unitsC, h1] using h)⟩

theorem s_l2Units (n : Int) {st : Store} {K : V → Store → Prop} (h : K (.x (.bool (unitsC n))) st) : Spec Proofs.Tryd.prog 31 [.x (.int .i64 n)] st K := by
  refine Spec.of_fd fd_spec_l2Units rfl ?_
  simp -dsimp -implicitDefEqProofs +contextual (maxSteps := 3000000) (disch := omega) only [go_sem, ↓reduceIte, reduceCtorEq, Nat.reduceEqDiff, Nat.reduceAdd, Nat.reduceSub, Nat.reduceMul, Nat.reduceLeDiff, Nat.reduceBEq, Int.reduceToNat, Int.reduceNeg, Int.reduceEq, Int.reduceLT, Int.reduceLE, Int.reduceAdd, Int.reduceSub, Int.reduceMul, Int.reduceBEq, Int.reduceBNe, Int.reduceGT, Int.reduceGE, beq_self_eq_true, bne_self_eq_false, c_spec_l2Units]
  refine ⟨fun h1 => Fin.pure0 rfl (by simpa [unitsC, h1] using h), fun h1 => Fin.pure0 rfl (by simpa [unitsC, h1] using h)⟩

theorem s_isHigh (n : Int) {st : Store} {K : V → Store → Prop} (h : K (.x (.bool (inR n 55296 56319))) st) : Spec Proofs.Tryd.prog 51 [.x (.int .i64 n)] st K := by
  refine Spec.of_fd fd_impl_isHigh rfl ?_
  simp -dsimp -implicitDefEqProofs +contextual (maxSteps := 3000000) (disch := omega) only [go_sem, ↓reduceIte, reduceCtorEq, Nat.reduceEqDiff, Nat.reduceAdd, Nat.reduceSub, Nat.reduceMul, Nat.reduceLeDiff, Nat.reduceBEq, Int.reduceToNat, Int.reduceNeg, Int.reduceEq, Int.reduceLT, Int.reduceLE, Int.reduceAdd, Int.reduceSub, Int.reduceMul, Int.reduceBEq, Int.reduceBNe, Int.reduceGT, Int.reduceGE, beq_self_eq_true, bne_self_eq_false, c_impl_isHigh]
  refine s_inRange _ _ _ ?_
  simp -dsimp -implicitDefEqProofs +contextual (maxSteps := 3000000) (disch := omega) only [go_sem, ↓reduceIte, reduceCtorEq, Nat.reduceEqDiff, Nat.reduceAdd, Nat.reduceSub, Nat.reduceMul, Nat.reduceLeDiff, Nat.reduceBEq, Int.reduceToNat, Int.reduceNeg, Int.reduceEq, Int.reduceLT, Int.reduceLE, Int.reduceAdd, Int.reduceSub, Int.reduceMul, Int.reduceBEq, Int.reduceBNe, Int.reduceGT, Int.reduceGE, beq_self_eq_true, bne_self_eq_false]
  exact Fin.pure0 rfl h

theorem s_l2High (n : Int) {st : Store} {K : V → Store → Prop} (h : K (.x (.bool (inR n 55296 56319))) st) : Spec Proofs.Tryd.prog 42 [.x (.int .i64 n)] st K := by
  refine Spec.of_fd fd_spec_l2High rfl ?_
  simp -dsimp -implicitDefEqProofs +contextual (maxSteps := 3000000) (disch := omega) only [go_sem, ↓reduceIte, reduceCtorEq, Nat.reduceEqDiff, Nat.reduceAdd, Nat.reduceSub, Nat.reduceMul, Nat.reduceLeDiff, Nat.reduceBEq, Int.reduceToNat, Int.reduceNeg, Int.reduceEq, Int.reduceLT, Int.reduceLE, Int.reduceAdd, Int.reduceSub, Int.reduceMul, Int.reduceBEq, Int.reduceBNe, Int.reduceGT, Int.reduceGE, beq_self_eq_true, bne_self_eq_false, c_spec_l2High]
  refine s_l1In _ _ _ ?_
  simp -dsimp -implicitDefEqProofs +contextual (maxSteps := 3000000) (disch := omega) only [go_sem, ↓reduceIte, reduceCtorEq, Nat.reduceEqDiff, Nat.reduceAdd, Nat.reduceSub, Nat.reduceMul, Nat.reduceLeDiff, Nat.reduceBEq, Int.reduceToNat, Int.reduceNeg, Int.reduceEq, Int.reduceLT, Int.reduceLE, Int.reduceAdd, Int.reduceSub, Int.reduceMul, Int.reduceBEq, Int.reduceBNe, Int.reduceGT, Int.reduceGE, beq_self_eq_true, bne_self_eq_false]
  exact Fin.pure0 rfl h

@[go_sem] theorem beq_nil (s : List UInt8) : (s == []) = s.isEmpty := by cases s <;> rfl
attribute [go_sem] List.isEmpty_nil List.isEmpty_cons

/-- The unit at the front of a text of two bytes at least. -/
def unitC (en : Int) (s : List UInt8) : Int := if en = 2 then by8 s 0 * 256 + by8 s 1 else by8 s 1 * 256 + by8 s 0

theorem or_add (a b : Int) (ha : 0 ≤ a ∧ a ≤ 255) (hb : 0 ≤ b ∧ b ≤ 255) : bitsV .or .i64 (a * 256) b = a * 256 + b := by
  obtain ⟨x, rfl⟩ := Int.eq_ofNat_of_zero_le ha.1
  obtain ⟨y, rfl⟩ := Int.eq_ofNat_of_zero_le hb.1
  have hx : x < 256 := by omega
  have hy : y < 256 := by omega
  have e : (BitVec.ofInt 64 ((x : Int) * 256) ||| BitVec.ofInt 64 (y : Int)).toNat = x * 256 + y := by
    have e1 : BitVec.ofInt 64 ((x : Int) * 256) = BitVec.ofNat 64 (x * 256) := by
      rw [show ((x : Int) * 256) = ((x * 256 : Nat) : Int) by omega, BitVec.ofInt_natCast]
    rw [e1, BitVec.ofInt_natCast, BitVec.toNat_or, BitVec.toNat_ofNat, BitVec.toNat_ofNat, Nat.mod_eq_of_lt (by omega), Nat.mod_eq_of_lt (by omega)]
    have := Nat.shiftLeft_add_eq_or_of_lt (i := 8) (b := y) (by omega) x
    rw [Nat.shiftLeft_eq, show (2 : Nat) ^ 8 = 256 from rfl] at this
    omega
  show IntKind.i64.wrap _ = _
  have hbits : IntKind.i64.bits = 64 := rfl
  rw [hbits, e]
  rw [wrap_i64 (by omega)]
  omega

theorem s_l2Unit (en : Int) (s : List UInt8) (h2 : 2 ≤ s.length) {st : Store} {K : V → Store → Prop} (h : K (.x (.int .i64 (unitC en s))) st) : Spec Proofs.Tryd.prog 43 [.x (.int .i64 en), .x (.string (bytes s))] st K := by
  have b0 := by8_bd s 0
  have b1 := by8_bd s 1
  refine Spec.of_fd fd_spec_l2Unit rfl ?_
  simp -dsimp -implicitDefEqProofs +contextual (maxSteps := 3000000) (disch := omega) only [go_sem, ↓reduceIte, reduceCtorEq, Nat.reduceEqDiff, Nat.reduceAdd, Nat.reduceSub, Nat.reduceMul, Nat.reduceLeDiff, Nat.reduceBEq, Int.reduceToNat, Int.reduceNeg, Int.reduceEq, Int.reduceLT, Int.reduceLE, Int.reduceAdd, Int.reduceSub, Int.reduceMul, Int.reduceBEq, Int.reduceBNe, Int.reduceGT, Int.reduceGE, beq_self_eq_true, bne_self_eq_false, c_spec_l2Unit, by8_eq]
  simp (disch := omega) only [wrap_i64, IntWalk.u8_in, Int.tdiv_eq_ediv_of_nonneg, Int.tmod_eq_emod_of_nonneg]
  (repeat' (first | omega | exact rfl | (refine Fin.pure0 rfl ?_) | (refine Fin.pure (Base.refl _) rfl ?_) | (refine gcase.mk (fun _ => ?_) (fun _ => ?_)) | (refine And.intro ?_ ?_)))
  all_goals (simp only [beq_iff_eq, beq_eq_false_iff_ne] at *; simpa [unitC, *] using h)

theorem s_unitAt (en : Int) (s : List UInt8) (h2 : 2 ≤ s.length) {st : Store} {K : V → Store → Prop} (h : K (.x (.int .i64 (unitC en s))) st) : Spec Proofs.Tryd.prog 52 [.x (.int .i64 en), .x (.string (bytes s))] st K := by
  have b0 := by8_bd s 0
  have b1 := by8_bd s 1
  refine Spec.of_fd fd_impl_unitAt rfl ?_
  simp -dsimp -implicitDefEqProofs +contextual (maxSteps := 3000000) (disch := omega) only [go_sem, ↓reduceIte, reduceCtorEq, Nat.reduceEqDiff, Nat.reduceAdd, Nat.reduceSub, Nat.reduceMul, Nat.reduceLeDiff, Nat.reduceBEq, Int.reduceToNat, Int.reduceNeg, Int.reduceEq, Int.reduceLT, Int.reduceLE, Int.reduceAdd, Int.reduceSub, Int.reduceMul, Int.reduceBEq, Int.reduceBNe, Int.reduceGT, Int.reduceGE, beq_self_eq_true, bne_self_eq_false, c_impl_unitAt, by8_eq]
  have e2 : (2 : Int) ^ min 8 64 = 256 := rfl
  simp only [e2]
  simp (disch := omega) only [wrap_i64, IntWalk.u8_in, Int.tdiv_eq_ediv_of_nonneg, Int.tmod_eq_emod_of_nonneg]
  rw [or_add _ _ b0 b1, or_add _ _ b1 b0]
  (repeat' (first | omega | exact rfl | (refine Fin.pure0 rfl ?_) | (refine Fin.pure (Base.refl _) rfl ?_) | (refine gcase.mk (fun _ => ?_) (fun _ => ?_)) | (refine And.intro ?_ ?_)))
  all_goals (simp only [beq_iff_eq, beq_eq_false_iff_ne] at *; simpa [unitC, *] using h)

end Go.VS
