/- Contracts: the reference's EndSession. -/
import Derived.Test.YtjklhbmkajabdaaDoorF17
set_option linter.all false
namespace Go.VS
open Go Go.RowKit
set_option maxRecDepth 10000

theorem Alt.nil0 {st : Store} : Alt st (.x (.slice none 0 0)) (V.ints []) := fun μ w R v hs hr => by
  rw [hr.x_inv]; exact .imm (.nil _ _)

theorem s_l10Drop (b : Bf) (n : Nat) (hn : n ≤ b.runes.length) (hl : b.longs.length = b.runes.length) (hs : b.runes.length ≤ 4294967296)
    (hg : 0 ≤ b.gone ∧ b.gone ≤ 4294967296) (hbd : ∀ x ∈ b.longs, 1 ≤ x ∧ x ≤ 1000) {st : Store} {K : V → Store → Prop} (h : K (.tup [.agg (b.cut n).cells, V.ints (b.runes.take n)]) st) :
    Spec Proofs.Tryd.prog 63 [.agg b.cells, .x (.int .i64 n)] st K := by
  refine Spec.of_fd fd_spec_l10Drop rfl ?_
  simp -dsimp -implicitDefEqProofs +contextual (maxSteps := 3000000) (disch := omega) only [go_sem, ↓reduceIte, reduceCtorEq, Nat.reduceEqDiff, Nat.reduceAdd, Nat.reduceSub, Nat.reduceMul, Nat.reduceLeDiff, Nat.reduceBEq, Int.reduceToNat, Int.reduceNeg, Int.reduceEq, Int.reduceLT, Int.reduceLE, Int.reduceAdd, Int.reduceSub, Int.reduceMul, Int.reduceBEq, Int.reduceBNe, Int.reduceGT, Int.reduceGE, beq_self_eq_true, bne_self_eq_false, c_spec_l10Drop, Bf.cells, V.ints, Int.toNat_natCast]
  refine ⟨by omega, by omega, by omega, callN.go _ (fun l hl => s_l1OwnI _ (by rw [List.length_drop]; omega) ⟨rfl, rfl⟩) ?_⟩
  simp -dsimp -implicitDefEqProofs +contextual (maxSteps := 3000000) (disch := omega) only [go_sem, ↓reduceIte, reduceCtorEq, Nat.reduceEqDiff, Nat.reduceAdd, Nat.reduceSub, Nat.reduceMul, Nat.reduceLeDiff, Nat.reduceBEq, Int.reduceToNat, Int.reduceNeg, Int.reduceEq, Int.reduceLT, Int.reduceLE, Int.reduceAdd, Int.reduceSub, Int.reduceMul, Int.reduceBEq, Int.reduceBNe, Int.reduceGT, Int.reduceGE, beq_self_eq_true, bne_self_eq_false, V.ints, Int.toNat_natCast]
  refine ⟨by omega, by omega, by omega, callN.go _ (fun l hl => s_l1OwnI _ (by rw [List.length_drop]; omega) ⟨rfl, rfl⟩) ?_⟩
  simp -dsimp -implicitDefEqProofs +contextual (maxSteps := 3000000) (disch := omega) only [go_sem, ↓reduceIte, reduceCtorEq, Nat.reduceEqDiff, Nat.reduceAdd, Nat.reduceSub, Nat.reduceMul, Nat.reduceLeDiff, Nat.reduceBEq, Int.reduceToNat, Int.reduceNeg, Int.reduceEq, Int.reduceLT, Int.reduceLE, Int.reduceAdd, Int.reduceSub, Int.reduceMul, Int.reduceBEq, Int.reduceBNe, Int.reduceGT, Int.reduceGE, beq_self_eq_true, bne_self_eq_false, V.ints, Int.toNat_natCast]
  refine ⟨by omega, by omega, ?_⟩
  have hys : ∀ x ∈ b.longs.take n, 1 ≤ x ∧ x ≤ 1000 := fun x hx => hbd x (List.mem_of_mem_take hx)
  have hyn : (b.longs.take n).length ≤ 4294967296 := by rw [List.length_take]; omega
  have hrn : (b.runes.take n).length ≤ 4294967296 := by rw [List.length_take]; omega
  unfold Bf.cut at h
  generalize hye : b.longs.take n = ys at *
  generalize hre : b.runes.drop n = rd at *
  generalize hle : b.longs.drop n = ld at *
  refine LoopC.intro (fun m ρ st' => ∃ i : Nat, m = ys.length - i ∧ i ≤ ys.length ∧
      st' = st ++ [⟨2, 0, 1, [.x (.int .i64 b.max), V.ints b.runes, V.ints b.longs, .x (.int .i64 b.gone)]⟩, ⟨2, 0, 1, [.x (.int .i64 0), .x (.slice none 0 0), .x (.slice none 0 0), .x (.int .i64 0)]⟩, ⟨2, 1, 1, [.x (.int .i64 b.max), V.ints rd, V.ints ld, .x (.int .i64 (b.gone + isum (ys.take i)))]⟩] ∧
      lk ρ 1 = .x (.int .i64 n) ∧ lk ρ 2 = .ptr st.length 0 0 ∧ lk ρ 4 = .ptr (st.length + 1) 0 0 ∧ lk ρ 6 = .ptr (st.length + 2) 1 0 ∧ lk ρ 27 = .sl ys.length 1 (intsF ys) ∧ lk ρ 28 = .x (.int .i64 ys.length) ∧ lk ρ 29 = .x (.int .i64 i)) ys.length
    (Weak.refl ⟨0, rfl, by omega, ?_, ?_⟩) ?_
  · simp [isum, mkV]
  · simp -dsimp -implicitDefEqProofs +contextual (maxSteps := 3000000) (disch := omega) only [go_sem, ↓reduceIte, reduceCtorEq, Nat.reduceEqDiff, Nat.reduceAdd, Nat.reduceSub, Nat.reduceMul, Nat.reduceLeDiff, Nat.reduceBEq, Int.reduceToNat, Int.reduceNeg, Int.reduceEq, Int.reduceLT, Int.reduceLE, Int.reduceAdd, Int.reduceSub, Int.reduceMul, Int.reduceBEq, Int.reduceBNe, Int.reduceGT, Int.reduceGE, beq_self_eq_true, bne_self_eq_false]
    simp
  rintro m ρ st' ⟨i, rfl, hi', rfl, g1, g2, g4, g6, g27, g28, g29⟩
  simp -dsimp -implicitDefEqProofs +contextual (maxSteps := 3000000) (disch := omega) only [go_sem, ↓reduceIte, reduceCtorEq, Nat.reduceEqDiff, Nat.reduceAdd, Nat.reduceSub, Nat.reduceMul, Nat.reduceLeDiff, Nat.reduceBEq, Int.reduceToNat, Int.reduceNeg, Int.reduceEq, Int.reduceLT, Int.reduceLE, Int.reduceAdd, Int.reduceSub, Int.reduceMul, Int.reduceBEq, Int.reduceBNe, Int.reduceGT, Int.reduceGE, beq_self_eq_true, bne_self_eq_false, g1, g2, g4, g6, g27, g28, g29]
  refine gcase.dec (fun hlt => ?_) (fun hge => ?_)
  · have hlt' : i < ys.length := by omega
    have hs1 := isum_bd (xs := ys.take i) fun x hx => hys x (List.mem_of_mem_take hx)
    have hl1 : (ys.take i).length = i := by simp; omega
    have hv := hys (ys.getD i 0) (by simp [hlt'])
    rw [intsF_lt hlt']
    simp -dsimp -implicitDefEqProofs +contextual (maxSteps := 3000000) (disch := omega) only [go_sem, ↓reduceIte, reduceCtorEq, Nat.reduceEqDiff, Nat.reduceAdd, Nat.reduceSub, Nat.reduceMul, Nat.reduceLeDiff, Nat.reduceBEq, Int.reduceToNat, Int.reduceNeg, Int.reduceEq, Int.reduceLT, Int.reduceLE, Int.reduceAdd, Int.reduceSub, Int.reduceMul, Int.reduceBEq, Int.reduceBNe, Int.reduceGT, Int.reduceGE, beq_self_eq_true, bne_self_eq_false, g29, g6]
    rw [hl1] at hs1
    simp (disch := omega) only [wrap_i64, IntWalk.u8_in, Int.tdiv_eq_ediv_of_nonneg, Int.tmod_eq_emod_of_nonneg]
    refine ⟨by omega, hlt, by omega, loopE.go (ys.length - (i + 1)) (by omega) (Weak.refl ⟨i + 1, rfl, by omega, ?_, ?_⟩)⟩
    · rw [take_at hlt', isum_snoc, Int.add_assoc]
    · simp -dsimp -implicitDefEqProofs +contextual (maxSteps := 3000000) (disch := omega) only [go_sem, ↓reduceIte, reduceCtorEq, Nat.reduceEqDiff, Nat.reduceAdd, Nat.reduceSub, Nat.reduceMul, Nat.reduceLeDiff, Nat.reduceBEq, Int.reduceToNat, Int.reduceNeg, Int.reduceEq, Int.reduceLT, Int.reduceLE, Int.reduceAdd, Int.reduceSub, Int.reduceMul, Int.reduceBEq, Int.reduceBNe, Int.reduceGT, Int.reduceGE, beq_self_eq_true, bne_self_eq_false, g1, g2, g4, g6, g27, g28]
      simp
  · have : i = ys.length := by omega
    subst this
    simp -dsimp -implicitDefEqProofs +contextual (maxSteps := 3000000) (disch := omega) only [go_sem, ↓reduceIte, reduceCtorEq, Nat.reduceEqDiff, Nat.reduceAdd, Nat.reduceSub, Nat.reduceMul, Nat.reduceLeDiff, Nat.reduceBEq, Int.reduceToNat, Int.reduceNeg, Int.reduceEq, Int.reduceLT, Int.reduceLE, Int.reduceAdd, Int.reduceSub, Int.reduceMul, Int.reduceBEq, Int.reduceBNe, Int.reduceGT, Int.reduceGE, beq_self_eq_true, bne_self_eq_false, g1, g2, g4, g6, Int.toNat_natCast]
    refine ⟨by omega, by omega, oneH.go _ (s_l1OwnI _ hrn ⟨rfl, rfl⟩) ?_⟩
    simp -dsimp -implicitDefEqProofs +contextual (maxSteps := 3000000) (disch := omega) only [go_sem, ↓reduceIte, reduceCtorEq, Nat.reduceEqDiff, Nat.reduceAdd, Nat.reduceSub, Nat.reduceMul, Nat.reduceLeDiff, Nat.reduceBEq, Int.reduceToNat, Int.reduceNeg, Int.reduceEq, Int.reduceLT, Int.reduceLE, Int.reduceAdd, Int.reduceSub, Int.reduceMul, Int.reduceBEq, Int.reduceBNe, Int.reduceGT, Int.reduceGE, beq_self_eq_true, bne_self_eq_false, g1, g2, g4, g6, V.ints]
    exact Fin.pure (Base.refl _) rfl h

theorem s_l10Put (b : Bf) (rs ls : List Int) (hgood : b.good = true) (hl : ls.length = rs.length) (hs : rs.length ≤ 4194304) (hbd : ∀ x ∈ ls, 1 ≤ x ∧ x ≤ 1000) {st : Store} {K : V → Store → Prop} (h : K (.tup [.agg (b.putB rs ls).cells, V.ints (b.putG rs)]) st) :
    Spec Proofs.Tryd.prog 46 [.agg b.cells, V.ints rs, V.ints ls] st K := by
  simp only [Bf.good, Bool.and_eq_true] at hgood
  obtain ⟨⟨⟨⟨⟨g1, g2⟩, g3⟩, g4⟩, g5⟩, g6⟩ := hgood
  have hml : b.max ≤ 60 := by simp [inR] at g1; omega
  have hm1 : 1 ≤ b.max := by simp [inR] at g1; omega
  have hrl : (b.runes.length : Int) ≤ b.max := by simpa using g2
  have hll : b.longs.length = b.runes.length := by have := g4; simp at this; omega
  have hgn : 0 ≤ b.gone ∧ b.gone ≤ 1000000 := by simpa [inR] using g5
  have hlb : ∀ x ∈ b.longs, 1 ≤ x ∧ x ≤ 1000 := fun x hx => by have := List.all_eq_true.1 g6 x hx; simpa [inR] using this
  refine Spec.of_fd fd_spec_l10Put rfl ?_
  simp -dsimp -implicitDefEqProofs +contextual (maxSteps := 3000000) (disch := omega) only [go_sem, ↓reduceIte, reduceCtorEq, Nat.reduceEqDiff, Nat.reduceAdd, Nat.reduceSub, Nat.reduceMul, Nat.reduceLeDiff, Nat.reduceBEq, Int.reduceToNat, Int.reduceNeg, Int.reduceEq, Int.reduceLT, Int.reduceLE, Int.reduceAdd, Int.reduceSub, Int.reduceMul, Int.reduceBEq, Int.reduceBNe, Int.reduceGT, Int.reduceGE, beq_self_eq_true, bne_self_eq_false, c_spec_l10Put, Bf.cells, V.ints]
  refine s_l1Own _ (by omega) ?_
  simp -dsimp -implicitDefEqProofs +contextual (maxSteps := 3000000) (disch := omega) only [go_sem, ↓reduceIte, reduceCtorEq, Nat.reduceEqDiff, Nat.reduceAdd, Nat.reduceSub, Nat.reduceMul, Nat.reduceLeDiff, Nat.reduceBEq, Int.reduceToNat, Int.reduceNeg, Int.reduceEq, Int.reduceLT, Int.reduceLE, Int.reduceAdd, Int.reduceSub, Int.reduceMul, Int.reduceBEq, Int.reduceBNe, Int.reduceGT, Int.reduceGE, beq_self_eq_true, bne_self_eq_false, V.ints, ints_cells]
  refine ⟨by omega, by omega, ?_⟩
  refine s_l1Own _ (by omega) ?_
  simp -dsimp -implicitDefEqProofs +contextual (maxSteps := 3000000) (disch := omega) only [go_sem, ↓reduceIte, reduceCtorEq, Nat.reduceEqDiff, Nat.reduceAdd, Nat.reduceSub, Nat.reduceMul, Nat.reduceLeDiff, Nat.reduceBEq, Int.reduceToNat, Int.reduceNeg, Int.reduceEq, Int.reduceLT, Int.reduceLE, Int.reduceAdd, Int.reduceSub, Int.reduceMul, Int.reduceBEq, Int.reduceBNe, Int.reduceGT, Int.reduceGE, beq_self_eq_true, bne_self_eq_false, V.ints, ints_cells]
  have e1 : IntKind.i64.wrap (((b.runes.length + rs.length : Nat) : Int) - b.max) = ((b.runes.length + rs.length : Nat) : Int) - b.max := wrap_i64 (by omega)
  have e2 : (if (0 : Int) > ((b.runes.length + rs.length : Nat) : Int) - b.max then (0 : Int) else ((b.runes.length + rs.length : Nat) : Int) - b.max) = ((b.over rs.length : Nat) : Int) := by
    unfold Bf.over; split <;> omega
  rw [e1]
  refine ⟨by omega, by omega, oneH.go _ (s_l1Most _ _ ⟨rfl, rfl⟩) ?_⟩
  rw [e2]
  simp -dsimp -implicitDefEqProofs +contextual (maxSteps := 3000000) (disch := omega) only [go_sem, ↓reduceIte, reduceCtorEq, Nat.reduceEqDiff, Nat.reduceAdd, Nat.reduceSub, Nat.reduceMul, Nat.reduceLeDiff, Nat.reduceBEq, Int.reduceToNat, Int.reduceNeg, Int.reduceEq, Int.reduceLT, Int.reduceLE, Int.reduceAdd, Int.reduceSub, Int.reduceMul, Int.reduceBEq, Int.reduceBNe, Int.reduceGT, Int.reduceGE, beq_self_eq_true, bne_self_eq_false]
  simp only [← List.length_append]
  have hrjl : (b.runes ++ rs).length = b.runes.length + rs.length := by simp
  have hljl : (b.longs ++ ls).length = b.longs.length + ls.length := by simp
  have hlj2 : ∀ x ∈ b.longs ++ ls, 1 ≤ x ∧ x ≤ 1000 := fun x hx => by
    rw [List.mem_append] at hx
    rcases hx with hx | hx
    · exact hlb x hx
    · exact hbd x hx
  have hov : b.over rs.length ≤ (b.runes ++ rs).length := by unfold Bf.over; omega
  unfold Bf.putB Bf.putG Bf.join at h
  generalize b.runes ++ rs = rj at *
  generalize b.longs ++ ls = lj at *
  generalize b.over rs.length = n at *
  refine Spec.frz (st.length + 3) (.of 2 1 rj) (own_get _ _ 3) (by simp [Blk.of]) (icells_pure _) ?_
  rw [set_own]
  refine Spec.frz (st.length + 4) (.of 2 1 lj) (own_get _ _ 4) (by simp [Blk.of]) (icells_pure _) ?_
  rw [set_own]
  simp -dsimp -implicitDefEqProofs +contextual (maxSteps := 3000000) (disch := omega) only [go_sem, ↓reduceIte, reduceCtorEq, Nat.reduceEqDiff, Nat.reduceAdd, Nat.reduceSub, Nat.reduceMul, Nat.reduceLeDiff, Nat.reduceBEq, Int.reduceToNat, Int.reduceNeg, Int.reduceEq, Int.reduceLT, Int.reduceLE, Int.reduceAdd, Int.reduceSub, Int.reduceMul, Int.reduceBEq, Int.reduceBNe, Int.reduceGT, Int.reduceGE, beq_self_eq_true, bne_self_eq_false, Nat.add_right_inj, Nat.add_left_cancel_iff]
  refine s_l10Drop ⟨b.max, rj, lj, b.gone⟩ n hov (by show lj.length = rj.length; omega) (by show rj.length ≤ _; omega) ⟨hgn.1, by show b.gone ≤ _; omega⟩ hlj2 ?_
  simp -dsimp -implicitDefEqProofs +contextual (maxSteps := 3000000) (disch := omega) only [go_sem, ↓reduceIte, reduceCtorEq, Nat.reduceEqDiff, Nat.reduceAdd, Nat.reduceSub, Nat.reduceMul, Nat.reduceLeDiff, Nat.reduceBEq, Int.reduceToNat, Int.reduceNeg, Int.reduceEq, Int.reduceLT, Int.reduceLE, Int.reduceAdd, Int.reduceSub, Int.reduceMul, Int.reduceBEq, Int.reduceBNe, Int.reduceGT, Int.reduceGE, beq_self_eq_true, bne_self_eq_false, Bf.cells, V.ints]
  exact Fin.pure (Base.refl _) rfl h

def Bf.zero : Bf := ⟨0, [], [], 0⟩
/-- Whether so many may be put. -/
def Bf.may (b : Bf) (rs ls : List Int) : Bool := b.good && (rs.all goodRune && decide ((rs.length : Int) ≤ 1000)) && ((ls.length : Int) == rs.length) && ls.all (fun n => inR n 1 1000) && (b.putB rs ls).good

theorem putB_len (b : Bf) (rs ls : List Int) : (b.putB rs ls).runes.length ≤ b.runes.length + rs.length ∧ (b.putB rs ls).longs.length ≤ b.longs.length + ls.length := by
  simp only [Bf.putB, Bf.join, Bf.cut, List.length_drop, List.length_append]; omega

theorem s_PutBuf (b : Bf) (rs ls : List Int) (h1 : b.runes.length ≤ 4294967296) (h2 : b.longs.length ≤ 4294967296) (h3 : rs.length ≤ 4194304) (h4 : ls.length ≤ 4194304) {st : Store} {K : V → Store → Prop}
    (h : K (.tup [.agg (bif b.may rs ls then b.putB rs ls else Bf.zero).cells, V.ints (bif b.may rs ls then b.putG rs else []), .x (.bool (b.may rs ls))]) st) :
    Spec Proofs.Tryd.prog 32 [.agg b.cells, V.ints rs, V.ints ls] st K := by
  refine Spec.of_fd fd_spec_PutBuf rfl ?_
  have hN : ∀ l, b.may rs ls = false → Fin st K (.tup [.agg [.x (.int .i64 0), .x (.slice none 0 0), .x (.slice none 0 0), .x (.int .i64 0)], .x (.slice none 0 0), .x (.bool false)]) (st ++ l) := fun l he => by
    rw [he] at h
    refine Fin.alt (r' := .tup [.agg Bf.zero.cells, V.ints [], .x (.bool false)]) (Alt.tup (.cons (Alt.agg (.cons .refl (.cons Alt.nil0 (.cons Alt.nil0 (.cons .refl .nil))))) (.cons Alt.nil0 (.cons .refl .nil)))) (Fin.pure (Base.refl _) rfl h)
  simp -dsimp -implicitDefEqProofs +contextual (maxSteps := 3000000) (disch := omega) only [go_sem, ↓reduceIte, reduceCtorEq, Nat.reduceEqDiff, Nat.reduceAdd, Nat.reduceSub, Nat.reduceMul, Nat.reduceLeDiff, Nat.reduceBEq, Int.reduceToNat, Int.reduceNeg, Int.reduceEq, Int.reduceLT, Int.reduceLE, Int.reduceAdd, Int.reduceSub, Int.reduceMul, Int.reduceBEq, Int.reduceBNe, Int.reduceGT, Int.reduceGE, beq_self_eq_true, bne_self_eq_false, c_spec_PutBuf, Bf.cells, V.ints]
  refine s_GoodBuf' b (by omega) (by omega) ?_
  simp -dsimp -implicitDefEqProofs +contextual (maxSteps := 3000000) (disch := omega) only [go_sem, ↓reduceIte, reduceCtorEq, Nat.reduceEqDiff, Nat.reduceAdd, Nat.reduceSub, Nat.reduceMul, Nat.reduceLeDiff, Nat.reduceBEq, Int.reduceToNat, Int.reduceNeg, Int.reduceEq, Int.reduceLT, Int.reduceLE, Int.reduceAdd, Int.reduceSub, Int.reduceMul, Int.reduceBEq, Int.reduceBNe, Int.reduceGT, Int.reduceGE, beq_self_eq_true, bne_self_eq_false]
  refine gcase.mk (fun hg => ?_) (fun hg => hN _ (by simp [Bf.may, hg]))
  refine s_l1AllRunes _ (by omega) ?_
  simp -dsimp -implicitDefEqProofs +contextual (maxSteps := 3000000) (disch := omega) only [go_sem, ↓reduceIte, reduceCtorEq, Nat.reduceEqDiff, Nat.reduceAdd, Nat.reduceSub, Nat.reduceMul, Nat.reduceLeDiff, Nat.reduceBEq, Int.reduceToNat, Int.reduceNeg, Int.reduceEq, Int.reduceLT, Int.reduceLE, Int.reduceAdd, Int.reduceSub, Int.reduceMul, Int.reduceBEq, Int.reduceBNe, Int.reduceGT, Int.reduceGE, beq_self_eq_true, bne_self_eq_false, hg]
  cases hr : (rs.all goodRune && decide ((rs.length : Int) ≤ 1000)) with
  | false =>
    simp -dsimp -implicitDefEqProofs +contextual (maxSteps := 3000000) (disch := omega) only [go_sem, ↓reduceIte, reduceCtorEq, Nat.reduceEqDiff, Nat.reduceAdd, Nat.reduceSub, Nat.reduceMul, Nat.reduceLeDiff, Nat.reduceBEq, Int.reduceToNat, Int.reduceNeg, Int.reduceEq, Int.reduceLT, Int.reduceLE, Int.reduceAdd, Int.reduceSub, Int.reduceMul, Int.reduceBEq, Int.reduceBNe, Int.reduceGT, Int.reduceGE, beq_self_eq_true, bne_self_eq_false]
    exact hN _ (by simp only [Bf.may, hr]; simp)
  | true =>
  simp -dsimp -implicitDefEqProofs +contextual (maxSteps := 3000000) (disch := omega) only [go_sem, ↓reduceIte, reduceCtorEq, Nat.reduceEqDiff, Nat.reduceAdd, Nat.reduceSub, Nat.reduceMul, Nat.reduceLeDiff, Nat.reduceBEq, Int.reduceToNat, Int.reduceNeg, Int.reduceEq, Int.reduceLT, Int.reduceLE, Int.reduceAdd, Int.reduceSub, Int.reduceMul, Int.reduceBEq, Int.reduceBNe, Int.reduceGT, Int.reduceGE, beq_self_eq_true, bne_self_eq_false, bne]
  refine gcase.mk (fun hl => ?_) (fun hl => hN _ (by simp only [Bf.may, hl]; simp))
  refine s_l1All _ _ _ (by omega) ?_
  simp -dsimp -implicitDefEqProofs +contextual (maxSteps := 3000000) (disch := omega) only [go_sem, ↓reduceIte, reduceCtorEq, Nat.reduceEqDiff, Nat.reduceAdd, Nat.reduceSub, Nat.reduceMul, Nat.reduceLeDiff, Nat.reduceBEq, Int.reduceToNat, Int.reduceNeg, Int.reduceEq, Int.reduceLT, Int.reduceLE, Int.reduceAdd, Int.reduceSub, Int.reduceMul, Int.reduceBEq, Int.reduceBNe, Int.reduceGT, Int.reduceGE, beq_self_eq_true, bne_self_eq_false, hl, bne]
  refine gcase.mk (fun hb => ?_) (fun hb => hN _ (by simp only [Bf.may, hb]; simp))
  have hl' : ls.length = rs.length := by rw [beq_iff_eq] at hl; omega
  have hbd : ∀ x ∈ ls, 1 ≤ x ∧ x ≤ 1000 := fun x hx => by have := List.all_eq_true.1 hb x hx; simpa [inR] using this
  refine s_l10Put b rs ls hg hl' h3 hbd ?_
  have hpl := putB_len b rs ls
  simp -dsimp -implicitDefEqProofs +contextual (maxSteps := 3000000) (disch := omega) only [go_sem, ↓reduceIte, reduceCtorEq, Nat.reduceEqDiff, Nat.reduceAdd, Nat.reduceSub, Nat.reduceMul, Nat.reduceLeDiff, Nat.reduceBEq, Int.reduceToNat, Int.reduceNeg, Int.reduceEq, Int.reduceLT, Int.reduceLE, Int.reduceAdd, Int.reduceSub, Int.reduceMul, Int.reduceBEq, Int.reduceBNe, Int.reduceGT, Int.reduceGE, beq_self_eq_true, bne_self_eq_false, Bf.cells, V.ints]
  refine s_GoodBuf' (b.putB rs ls) (by omega) (by omega) ?_
  simp -dsimp -implicitDefEqProofs +contextual (maxSteps := 3000000) (disch := omega) only [go_sem, ↓reduceIte, reduceCtorEq, Nat.reduceEqDiff, Nat.reduceAdd, Nat.reduceSub, Nat.reduceMul, Nat.reduceLeDiff, Nat.reduceBEq, Int.reduceToNat, Int.reduceNeg, Int.reduceEq, Int.reduceLT, Int.reduceLE, Int.reduceAdd, Int.reduceSub, Int.reduceMul, Int.reduceBEq, Int.reduceBNe, Int.reduceGT, Int.reduceGE, beq_self_eq_true, bne_self_eq_false]
  refine gcase.mk (fun ho => ?_) (fun ho => hN _ (by simp [Bf.may, ho]))
  have hm : b.may rs ls = true := by simp only [Bf.may, hg, hr, hl, hb, ho]; rfl
  rw [hm] at h
  exact Fin.pure (Base.refl _) rfl h

theorem s_l10Come (d : Dec) (b : Bf) (rs ls : List Int) (eof : Bool) (h1 : b.runes.length ≤ 4194304) (h2 : b.longs.length ≤ 4194304) (h3 : rs.length ≤ 4194304) (h4 : ls.length ≤ 4194304) (h5 : d.held.length ≤ 4194304) {st : Store} {K : V → Store → Prop}
    (h : K (.tup [.agg (bif b.may rs ls && (⟨d, b.putB rs ls, eof⟩ : Sess).good then ⟨d, b.putB rs ls, eof⟩ else Sess.zero).cells, V.ints (bif b.may rs ls && (⟨d, b.putB rs ls, eof⟩ : Sess).good then b.putG rs else []), .x (.bool (b.may rs ls && (⟨d, b.putB rs ls, eof⟩ : Sess).good))]) st) :
    Spec Proofs.Tryd.prog 18 [.agg d.cells, .agg b.cells, V.ints rs, V.ints ls, .x (.bool eof)] st K := by
  refine Spec.of_fd fd_spec_l10Come rfl ?_
  have hN : ∀ l, (b.may rs ls && (⟨d, b.putB rs ls, eof⟩ : Sess).good) = false → Fin st K (.tup [.agg [.x (.int .i64 0), .x (.int .i64 0), .x (.int .i64 0), .x (.string ⟨#[]⟩), .x (.int .i64 0), .x (.slice none 0 0), .x (.slice none 0 0), .x (.int .i64 0), .x (.bool false)], .x (.slice none 0 0), .x (.bool false)]) (st ++ l) := fun l he => by
    rw [he] at h
    refine Fin.alt (r' := .tup [.agg Sess.zero.cells, V.ints [], .x (.bool false)]) (Alt.tup (.cons (Alt.agg (.cons .refl (.cons .refl (.cons .refl (.cons .refl (.cons .refl (.cons Alt.nil0 (.cons Alt.nil0 (.cons .refl (.cons .refl .nil)))))))))) (.cons Alt.nil0 (.cons .refl .nil)))) (Fin.pure (Base.refl _) rfl h)
  simp -dsimp -implicitDefEqProofs +contextual (maxSteps := 3000000) (disch := omega) only [go_sem, ↓reduceIte, reduceCtorEq, Nat.reduceEqDiff, Nat.reduceAdd, Nat.reduceSub, Nat.reduceMul, Nat.reduceLeDiff, Nat.reduceBEq, Int.reduceToNat, Int.reduceNeg, Int.reduceEq, Int.reduceLT, Int.reduceLE, Int.reduceAdd, Int.reduceSub, Int.reduceMul, Int.reduceBEq, Int.reduceBNe, Int.reduceGT, Int.reduceGE, beq_self_eq_true, bne_self_eq_false, c_spec_l10Come, Dec.cells, Bf.cells, V.ints]
  refine s_PutBuf b rs ls (by omega) (by omega) h3 h4 ?_
  have hpl := putB_len b rs ls
  cases hm : b.may rs ls with
  | false =>
    simp -dsimp -implicitDefEqProofs +contextual (maxSteps := 3000000) (disch := omega) only [go_sem, ↓reduceIte, reduceCtorEq, Nat.reduceEqDiff, Nat.reduceAdd, Nat.reduceSub, Nat.reduceMul, Nat.reduceLeDiff, Nat.reduceBEq, Int.reduceToNat, Int.reduceNeg, Int.reduceEq, Int.reduceLT, Int.reduceLE, Int.reduceAdd, Int.reduceSub, Int.reduceMul, Int.reduceBEq, Int.reduceBNe, Int.reduceGT, Int.reduceGE, beq_self_eq_true, bne_self_eq_false, Bf.cells, V.ints]
    exact hN _ (by rw [hm]; rfl)
  | true =>
  rw [hm] at h hN
  simp -dsimp -implicitDefEqProofs +contextual (maxSteps := 3000000) (disch := omega) only [go_sem, ↓reduceIte, reduceCtorEq, Nat.reduceEqDiff, Nat.reduceAdd, Nat.reduceSub, Nat.reduceMul, Nat.reduceLeDiff, Nat.reduceBEq, Int.reduceToNat, Int.reduceNeg, Int.reduceEq, Int.reduceLT, Int.reduceLE, Int.reduceAdd, Int.reduceSub, Int.reduceMul, Int.reduceBEq, Int.reduceBNe, Int.reduceGT, Int.reduceGE, beq_self_eq_true, bne_self_eq_false, Bf.cells, V.ints]
  refine s_GoodSession' ⟨d, b.putB rs ls, eof⟩ (by show d.held.length ≤ _; omega) (by show (b.putB rs ls).runes.length ≤ _; omega) (by show (b.putB rs ls).longs.length ≤ _; omega) ?_
  simp -dsimp -implicitDefEqProofs +contextual (maxSteps := 3000000) (disch := omega) only [go_sem, ↓reduceIte, reduceCtorEq, Nat.reduceEqDiff, Nat.reduceAdd, Nat.reduceSub, Nat.reduceMul, Nat.reduceLeDiff, Nat.reduceBEq, Int.reduceToNat, Int.reduceNeg, Int.reduceEq, Int.reduceLT, Int.reduceLE, Int.reduceAdd, Int.reduceSub, Int.reduceMul, Int.reduceBEq, Int.reduceBNe, Int.reduceGT, Int.reduceGE, beq_self_eq_true, bne_self_eq_false]
  refine gcase.mk (fun ho => ?_) (fun ho => hN _ (by rw [ho]; rfl))
  rw [ho] at h
  exact Fin.pure (Base.refl _) rfl h

end Go.VS
