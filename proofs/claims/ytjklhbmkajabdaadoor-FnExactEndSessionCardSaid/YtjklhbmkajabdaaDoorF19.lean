/- Contracts: the reference's EndSession tells what the program's does. -/
import Derived.Test.YtjklhbmkajabdaaDoorF18
set_option linter.all false
namespace Go.VS
open Go Go.RowKit
set_option maxRecDepth 10000

theorem shut_good {d : Dec} (h : d.good = true) : d.shut.good = true := by
  unfold Dec.good at h ⊢
  simp only [Bool.and_eq_true] at h ⊢
  exact ⟨h.1, by simp [Dec.shut]⟩

theorem bads_good (n : Nat) : (bads n).all goodRune = true := by
  rw [List.all_eq_true]
  intro x hx
  rw [List.eq_of_mem_replicate hx]; rfl

theorem rest_bd (d : Dec) : ∀ x ∈ d.rest, 1 ≤ x ∧ x ≤ 1000 := fun x hx => by
  unfold Dec.rest at hx
  have hl : (if unitsC d.en then 2 else 1) = 1 ∨ (if unitsC d.en then 2 else 1) = 2 := by split <;> simp
  have := chunks_bd (long := if unitsC d.en then 2 else 1) (by omega) d.held.length _ (Nat.le_refl _) x hx
  omega

theorem rest_len (d : Dec) : d.rest.length ≤ d.held.length := by
  unfold Dec.rest
  exact chunks_len (by split <;> omega) _ _ (Nat.le_refl _)

theorem good_held {d : Dec} (h : d.good = true) : d.held.length ≤ 3 := by
  unfold Dec.good at h
  simp only [Bool.and_eq_true, Bool.or_eq_true] at h
  rcases h.2 with h | h
  · cases hd : d.held with
    | nil => simp
    | cons a r => rw [hd] at h; cases h
  · cases he : (d.en == 1) with
    | true =>
      rw [he] at h
      have := ((begun_iff _).1 h).1.2.1
      exact this
    | false =>
      rw [he] at h
      simp at h
      omega

/-- What the reference tells is what the program tells. -/
theorem come_eq (s : Sess) (hg : s.good = true) (he : s.eof = false) :
    (s.buf.may (bads s.dec.rest.length) s.dec.rest && (⟨s.dec.shut, s.buf.putB (bads s.dec.rest.length) s.dec.rest, true⟩ : Sess).good) = s.ends := by
  have h3 : s.dec.good = true ∧ s.buf.good = true := by
    unfold Sess.good at hg
    simp only [Bool.and_eq_true] at hg
    exact ⟨hg.1.1, hg.1.2⟩
  have hl := good_held h3.1
  have hr := rest_len s.dec
  have ha : (s.dec.rest.all fun n => inR n 1 1000) = true := by
    rw [List.all_eq_true]; intro x hx
    have := rest_bd s.dec x hx
    simp [inR, this]
  have hm : s.buf.may (bads s.dec.rest.length) s.dec.rest = (s.buf.putB (bads s.dec.rest.length) s.dec.rest).good := by
    unfold Bf.may
    rw [h3.2, bads_good, bads_len, ha]
    have : decide ((s.dec.rest.length : Int) ≤ 1000) = true := by simp; omega
    rw [this]
    simp
  rw [hm]
  unfold Sess.ends Sess.shut
  rw [hg, he]
  have hs : (⟨s.dec.shut, s.buf.putB (bads s.dec.rest.length) s.dec.rest, true⟩ : Sess).good = (s.buf.putB (bads s.dec.rest.length) s.dec.rest).good := by
    show (s.dec.shut.good && _ && (!true || s.dec.shut.held.isEmpty)) = _
    rw [shut_good h3.1]; simp [Dec.shut]
  rw [hs]
  simp

theorem s_specEnd (s : Sess) (h1 : s.buf.runes.length ≤ 4194304) (h2 : s.buf.longs.length ≤ 4194304) (hh : s.dec.held.length ≤ 4194304) {st : Store} {K : V → Store → Prop}
    (h : K (.tup [.agg s.endS.cells, V.ints s.endG, .x (.bool s.ends)]) st) : Spec Proofs.Tryd.prog 5 [.agg s.cells] st K := by
  refine Spec.of_fd fd_spec_EndSession rfl ?_
  have hN : ∀ l, s.ends = false → Fin st K (.tup [.agg [.x (.int .i64 0), .x (.int .i64 0), .x (.int .i64 0), .x (.string ⟨#[]⟩), .x (.int .i64 0), .x (.slice none 0 0), .x (.slice none 0 0), .x (.int .i64 0), .x (.bool false)], .x (.slice none 0 0), .x (.bool false)]) (st ++ l) := fun l he => by
    unfold Sess.endS Sess.endG at h
    rw [he] at h
    refine Fin.alt (r' := .tup [.agg Sess.zero.cells, V.ints [], .x (.bool false)]) (Alt.tup (.cons (Alt.agg (.cons .refl (.cons .refl (.cons .refl (.cons .refl (.cons .refl (.cons Alt.nil0 (.cons Alt.nil0 (.cons .refl (.cons .refl .nil)))))))))) (.cons Alt.nil0 (.cons .refl .nil)))) (Fin.pure (Base.refl _) rfl h)
  simp -dsimp -implicitDefEqProofs +contextual (maxSteps := 3000000) (disch := omega) only [go_sem, ↓reduceIte, reduceCtorEq, Nat.reduceEqDiff, Nat.reduceAdd, Nat.reduceSub, Nat.reduceMul, Nat.reduceLeDiff, Nat.reduceBEq, Int.reduceToNat, Int.reduceNeg, Int.reduceEq, Int.reduceLT, Int.reduceLE, Int.reduceAdd, Int.reduceSub, Int.reduceMul, Int.reduceBEq, Int.reduceBNe, Int.reduceGT, Int.reduceGE, beq_self_eq_true, bne_self_eq_false, c_spec_EndSession, Sess.cells, Dec.cells, Bf.cells, V.ints]
  refine s_GoodSession' s (by omega) (by omega) (by omega) ?_
  simp -dsimp -implicitDefEqProofs +contextual (maxSteps := 3000000) (disch := omega) only [go_sem, ↓reduceIte, reduceCtorEq, Nat.reduceEqDiff, Nat.reduceAdd, Nat.reduceSub, Nat.reduceMul, Nat.reduceLeDiff, Nat.reduceBEq, Int.reduceToNat, Int.reduceNeg, Int.reduceEq, Int.reduceLT, Int.reduceLE, Int.reduceAdd, Int.reduceSub, Int.reduceMul, Int.reduceBEq, Int.reduceBNe, Int.reduceGT, Int.reduceGE, beq_self_eq_true, bne_self_eq_false]
  refine gcase.mk (fun hg => gcase.mk (fun he => hN _ (by simp [Sess.ends, he])) (fun he => ?_)) (fun hg => hN _ (by simp [Sess.ends, hg]))
  refine s_l2Flush s.dec hh ?_
  simp -dsimp -implicitDefEqProofs +contextual (maxSteps := 3000000) (disch := omega) only [go_sem, ↓reduceIte, reduceCtorEq, Nat.reduceEqDiff, Nat.reduceAdd, Nat.reduceSub, Nat.reduceMul, Nat.reduceLeDiff, Nat.reduceBEq, Int.reduceToNat, Int.reduceNeg, Int.reduceEq, Int.reduceLT, Int.reduceLE, Int.reduceAdd, Int.reduceSub, Int.reduceMul, Int.reduceBEq, Int.reduceBNe, Int.reduceGT, Int.reduceGE, beq_self_eq_true, bne_self_eq_false, Dec.shut, Dec.cells, V.ints]
  have hrl := rest_len s.dec
  have hc := come_eq s hg he
  refine s_l10Come s.dec.shut s.buf (bads s.dec.rest.length) s.dec.rest true h1 h2 (by rw [bads_len]; omega) (by omega) (by simp [Dec.shut]) ?_
  rw [hc]
  simp -dsimp -implicitDefEqProofs +contextual (maxSteps := 3000000) (disch := omega) only [go_sem, ↓reduceIte, reduceCtorEq, Nat.reduceEqDiff, Nat.reduceAdd, Nat.reduceSub, Nat.reduceMul, Nat.reduceLeDiff, Nat.reduceBEq, Int.reduceToNat, Int.reduceNeg, Int.reduceEq, Int.reduceLT, Int.reduceLE, Int.reduceAdd, Int.reduceSub, Int.reduceMul, Int.reduceBEq, Int.reduceBNe, Int.reduceGT, Int.reduceGE, beq_self_eq_true, bne_self_eq_false, Sess.cells, Dec.cells, Bf.cells, V.ints]
  exact Fin.pure (Base.refl _) rfl h

end Go.VS
