/- The law FnExactEndSession answers true. -/
import Derived.Test.YtjklhbmkajabdaaDoorF19
set_option linter.all false
namespace Go.VS
open Go Go.RowKit
set_option maxRecDepth 10000

theorem s_toSessionI (s : Sess) (h1 : s.buf.runes.length ≤ 4194304) (h2 : s.buf.longs.length ≤ 4194304) {st : Store} {K : V → Store → Prop} (h : K (.agg s.cells) st) :
    Spec Proofs.Tryd.prog 6 [.agg s.cells] st K := by
  refine Spec.fin (s_toSession s h1 h2 (Fin.see (r' := .agg s.cells) (Base.refl _) ?_ h))
  exact Sees.aggA (.cons (Sees.pure rfl) (.cons (Sees.pure rfl) (.cons (Sees.pure rfl) (.cons (Sees.pure rfl) (.cons (Sees.pure rfl) (.cons (Sees.ints (Nat.le_refl _) (own_get _ _ 0) (by decide) rfl) (.cons (Sees.ints (by omega) (own_get _ _ 1) (by decide) rfl) (.cons (Sees.pure rfl) (.cons (Sees.pure rfl) .nil)))))))))

/-- A session whose lists lie in two blocks, as one that only reads it sees it. -/
theorem sees_sess {st : Store} (s : Sess) (m e1 e2 : Nat) (h1 : st[m]? = some (.of e1 0 s.buf.runes)) (h2 : st[m + 1]? = some (.of e2 0 s.buf.longs)) (he1 : e1 ≠ 0) (he2 : e2 ≠ 0) :
    Sees 0 st (sessV s.dec s.buf.max m s.buf.runes.length (m + 1) s.buf.longs.length s.buf.gone s.eof) (.agg s.cells) :=
  Sees.aggA (.cons (Sees.pure rfl) (.cons (Sees.pure rfl) (.cons (Sees.pure rfl) (.cons (Sees.pure rfl) (.cons (Sees.pure rfl) (.cons (Sees.ints (Nat.zero_le _) h1 he1 rfl) (.cons (Sees.ints (Nat.zero_le _) h2 he2 rfl) (.cons (Sees.pure rfl) (.cons (Sees.pure rfl) .nil)))))))))

@[go_sem] theorem icells_up (xs : List Int) (m : Nat) : (icells xs).map (V.up m) = icells xs := by
  simp only [icells, List.map_map]; rfl
theorem icells_fresh (xs : List Int) : V.fresh.all (icells xs) = true := by
  induction xs with
  | nil => rfl
  | cons x r ih => simp [icells, V.fresh.all, V.fresh] at *; exact ih
@[go_sem] theorem own_set (st l : Store) (k : Nat) (b : Blk) : (st ++ l).set (st.length + k) b = st ++ l.set k b := set_own st l k b

theorem Sess.beq_self (s : Sess) : s.beq s = true := by simp [Sess.beq, Dec.beq, Bf.beq]

theorem s_eqG {st : Store} (r : Sess) (m e1 e2 : Nat) (h1 : st[m]? = some (.of e1 0 r.buf.runes)) (h2 : st[m + 1]? = some (.of e2 0 r.buf.longs)) (he1 : e1 ≠ 0) (he2 : e2 ≠ 0) (k1 : r.buf.runes.length ≤ 8388608) (k2 : r.buf.longs.length ≤ 8388608) {K : V → Store → Prop} (h : K (.x (.bool true)) st) :
    Spec Proofs.Tryd.prog 8 [sessV r.dec r.buf.max m r.buf.runes.length (m + 1) r.buf.longs.length r.buf.gone r.eof, .agg r.cells] st K :=
  Spec.seeF (args' := [.agg r.cells, .agg r.cells]) (.cons (sees_sess r m e1 e2 h1 h2 he1 he2) (.cons (Sees.pure rfl) .nil)) (s_eqSession r r (by omega) (by omega) ⟨rfl, rfl, by rw [r.beq_self]; exact h⟩)

theorem s_eqL {st : Store} (g : List Int) (m e : Nat) (h1 : st[m]? = some (.of e 0 g)) (he : e ≠ 0) (k : g.length ≤ 8388608) {K : V → Store → Prop} (h : K (.x (.bool true)) st) :
    Spec Proofs.Tryd.prog 9 [.ref m 0 0 g.length, V.ints g] st K :=
  Spec.seeF (args' := [V.ints g, V.ints g]) (.cons (Sees.ints (Nat.zero_le _) h1 he rfl) (.cons (Sees.pure rfl) .nil)) (s_eqIntS g g (by omega) ⟨rfl, rfl, by rw [beq_self_eq_true]; exact h⟩)

theorem endS_len (s : Sess) (h1 : s.buf.runes.length ≤ 4194304) (h2 : s.buf.longs.length ≤ 4194304) (hh : s.dec.held.length ≤ 4194304) : s.endS.buf.runes.length ≤ 8388608 ∧ s.endS.buf.longs.length ≤ 8388608 ∧ s.endG.length ≤ 8388608 := by
  have hr := rest_len s.dec
  have hp := putB_len s.buf (bads s.dec.rest.length) s.dec.rest
  rw [bads_len] at hp
  unfold Sess.endS Sess.endG Sess.shut Sess.gone Bf.putG
  cases s.ends with
  | true =>
    simp only [cond_true, List.length_take, List.length_append, bads_len]
    omega
  | false => simp [Sess.zero]

theorem s_main (s : Sess) (h1 : s.buf.runes.length ≤ 9223372036854775807) (h2 : s.buf.longs.length ≤ 9223372036854775807) (hh : s.dec.held.length ≤ 9223372036854775807) {st : Store} {K : V → Store → Prop} (h : K (.x (.bool true)) st) :
    Spec Proofs.Tryd.prog 3 [.agg s.cells] st K := by
  refine Spec.of_fd fd_laws_FnExactEndSession rfl ?_
  simp -dsimp -implicitDefEqProofs +contextual (maxSteps := 3000000) (disch := omega) only [go_sem, ↓reduceIte, reduceCtorEq, Nat.reduceEqDiff, Nat.reduceAdd, Nat.reduceSub, Nat.reduceMul, Nat.reduceLeDiff, Nat.reduceBEq, Int.reduceToNat, Int.reduceNeg, Int.reduceEq, Int.reduceLT, Int.reduceLE, Int.reduceAdd, Int.reduceSub, Int.reduceMul, Int.reduceBEq, Int.reduceBNe, Int.reduceGT, Int.reduceGE, beq_self_eq_true, bne_self_eq_false, c_laws_FnExactEndSession, Sess.cells, Dec.cells, Bf.cells, V.ints]
  refine s_szSession s _ (by omega) (by omega) (by omega) (by omega) ?_ (fun hsz => ?_)
  · simp -dsimp -implicitDefEqProofs +contextual (maxSteps := 3000000) (disch := omega) only [go_sem, ↓reduceIte, reduceCtorEq, Nat.reduceEqDiff, Nat.reduceAdd, Nat.reduceSub, Nat.reduceMul, Nat.reduceLeDiff, Nat.reduceBEq, Int.reduceToNat, Int.reduceNeg, Int.reduceEq, Int.reduceLT, Int.reduceLE, Int.reduceAdd, Int.reduceSub, Int.reduceMul, Int.reduceBEq, Int.reduceBNe, Int.reduceGT, Int.reduceGE, beq_self_eq_true, bne_self_eq_false]
    exact Fin.pure (Base.refl _) rfl h
  simp -dsimp -implicitDefEqProofs +contextual (maxSteps := 3000000) (disch := omega) only [go_sem, ↓reduceIte, reduceCtorEq, Nat.reduceEqDiff, Nat.reduceAdd, Nat.reduceSub, Nat.reduceMul, Nat.reduceLeDiff, Nat.reduceBEq, Int.reduceToNat, Int.reduceNeg, Int.reduceEq, Int.reduceLT, Int.reduceLE, Int.reduceAdd, Int.reduceSub, Int.reduceMul, Int.reduceBEq, Int.reduceBNe, Int.reduceGT, Int.reduceGE, beq_self_eq_true, bne_self_eq_false]
  refine gcase.dec (fun hneg => by omega) (fun _ => ?_)
  refine s_toSessionI s (by omega) (by omega) ?_
  simp -dsimp -implicitDefEqProofs +contextual (maxSteps := 3000000) (disch := omega) only [go_sem, ↓reduceIte, reduceCtorEq, Nat.reduceEqDiff, Nat.reduceAdd, Nat.reduceSub, Nat.reduceMul, Nat.reduceLeDiff, Nat.reduceBEq, Int.reduceToNat, Int.reduceNeg, Int.reduceEq, Int.reduceLT, Int.reduceLE, Int.reduceAdd, Int.reduceSub, Int.reduceMul, Int.reduceBEq, Int.reduceBNe, Int.reduceGT, Int.reduceGE, beq_self_eq_true, bne_self_eq_false]
  refine s_specEnd s (by omega) (by omega) (by omega) ?_
  simp -dsimp -implicitDefEqProofs +contextual (maxSteps := 3000000) (disch := omega) only [go_sem, ↓reduceIte, reduceCtorEq, Nat.reduceEqDiff, Nat.reduceAdd, Nat.reduceSub, Nat.reduceMul, Nat.reduceLeDiff, Nat.reduceBEq, Int.reduceToNat, Int.reduceNeg, Int.reduceEq, Int.reduceLT, Int.reduceLE, Int.reduceAdd, Int.reduceSub, Int.reduceMul, Int.reduceBEq, Int.reduceBNe, Int.reduceGT, Int.reduceGE, beq_self_eq_true, bne_self_eq_false]
  obtain ⟨k1, k2, k3⟩ := endS_len s (by omega) (by omega) (by omega)
  have hE := fun (st : Store) (K : V → Store → Prop) => s_EndSession s (by omega) (by omega) (by omega) (st := st) (K := K)
  generalize s.endS = r at *
  generalize s.endG = g at *
  generalize s.ends = b at *
  simp -dsimp -implicitDefEqProofs +contextual (maxSteps := 3000000) (disch := omega) only [go_sem, ↓reduceIte, reduceCtorEq, Nat.reduceEqDiff, Nat.reduceAdd, Nat.reduceSub, Nat.reduceMul, Nat.reduceLeDiff, Nat.reduceBEq, Int.reduceToNat, Int.reduceNeg, Int.reduceEq, Int.reduceLT, Int.reduceLE, Int.reduceAdd, Int.reduceSub, Int.reduceMul, Int.reduceBEq, Int.reduceBNe, Int.reduceGT, Int.reduceGE, beq_self_eq_true, bne_self_eq_false, Sess.cells, Dec.cells, Bf.cells, V.ints]
  refine s_toSession s (by omega) (by omega) ?_
  simp -dsimp -implicitDefEqProofs +contextual (maxSteps := 3000000) (disch := omega) only [go_sem, ↓reduceIte, reduceCtorEq, Nat.reduceEqDiff, Nat.reduceAdd, Nat.reduceSub, Nat.reduceMul, Nat.reduceLeDiff, Nat.reduceBEq, Int.reduceToNat, Int.reduceNeg, Int.reduceEq, Int.reduceLT, Int.reduceLE, Int.reduceAdd, Int.reduceSub, Int.reduceMul, Int.reduceBEq, Int.reduceBNe, Int.reduceGT, Int.reduceGE, beq_self_eq_true, bne_self_eq_false, Sess.own, Sess.blks, Dec.cells, Nat.add_assoc]
  have hS : ∀ st : Store, st.length = st.length := fun _ => rfl
  refine Spec.seeA (args' := [.agg s.cells]) (.cons (sees_sess s (st.length + 2) 2 2 (own_get _ _ 2) (own_get _ _ 3) (by decide) (by decide)) .nil) (hE [] _ fun e1 e2 e3 n1 n2 n3 => ?_)
  simp -dsimp -implicitDefEqProofs +contextual (maxSteps := 3000000) (disch := omega) only [go_sem, ↓reduceIte, reduceCtorEq, Nat.reduceEqDiff, Nat.reduceAdd, Nat.reduceSub, Nat.reduceMul, Nat.reduceLeDiff, Nat.reduceBEq, Int.reduceToNat, Int.reduceNeg, Int.reduceEq, Int.reduceLT, Int.reduceLE, Int.reduceAdd, Int.reduceSub, Int.reduceMul, Int.reduceBEq, Int.reduceBNe, Int.reduceGT, Int.reduceGE, beq_self_eq_true, bne_self_eq_false, outV, outB, sessV, Dec.cells, Nat.add_assoc]
  refine ⟨fun b hb => ?_, ?_⟩
  · simp only [List.mem_cons, List.not_mem_nil, or_false] at hb
    rcases hb with rfl | rfl | rfl <;> exact icells_fresh _
  refine s_eqG r (st.length + 5) e1 e2 (own_get _ _ 5) (own_get _ _ 6) n1 n2 k1 k2 ?_
  simp -dsimp -implicitDefEqProofs +contextual (maxSteps := 3000000) (disch := omega) only [go_sem, ↓reduceIte, reduceCtorEq, Nat.reduceEqDiff, Nat.reduceAdd, Nat.reduceSub, Nat.reduceMul, Nat.reduceLeDiff, Nat.reduceBEq, Int.reduceToNat, Int.reduceNeg, Int.reduceEq, Int.reduceLT, Int.reduceLE, Int.reduceAdd, Int.reduceSub, Int.reduceMul, Int.reduceBEq, Int.reduceBNe, Int.reduceGT, Int.reduceGE, beq_self_eq_true, bne_self_eq_false]
  refine s_eqL g (st.length + 7) e3 (own_get _ _ 7) n3 k3 ?_
  simp -dsimp -implicitDefEqProofs +contextual (maxSteps := 3000000) (disch := omega) only [go_sem, ↓reduceIte, reduceCtorEq, Nat.reduceEqDiff, Nat.reduceAdd, Nat.reduceSub, Nat.reduceMul, Nat.reduceLeDiff, Nat.reduceBEq, Int.reduceToNat, Int.reduceNeg, Int.reduceEq, Int.reduceLT, Int.reduceLE, Int.reduceAdd, Int.reduceSub, Int.reduceMul, Int.reduceBEq, Int.reduceBNe, Int.reduceGT, Int.reduceGE, beq_self_eq_true, bne_self_eq_false]
  refine oneH.go _ (s_toSessionI s (by omega) (by omega) ⟨rfl, rfl⟩) ?_
  simp -dsimp -implicitDefEqProofs +contextual (maxSteps := 3000000) (disch := omega) only [go_sem, ↓reduceIte, reduceCtorEq, Nat.reduceEqDiff, Nat.reduceAdd, Nat.reduceSub, Nat.reduceMul, Nat.reduceLeDiff, Nat.reduceBEq, Int.reduceToNat, Int.reduceNeg, Int.reduceEq, Int.reduceLT, Int.reduceLE, Int.reduceAdd, Int.reduceSub, Int.reduceMul, Int.reduceBEq, Int.reduceBNe, Int.reduceGT, Int.reduceGE, beq_self_eq_true, bne_self_eq_false]
  refine oneH.go _ (s_eqG s (st.length + 2) 2 2 (own_get _ _ 2) (own_get _ _ 3) (by decide) (by decide) (by omega) (by omega) ⟨rfl, rfl⟩) ?_
  simp -dsimp -implicitDefEqProofs +contextual (maxSteps := 3000000) (disch := omega) only [go_sem, ↓reduceIte, reduceCtorEq, Nat.reduceEqDiff, Nat.reduceAdd, Nat.reduceSub, Nat.reduceMul, Nat.reduceLeDiff, Nat.reduceBEq, Int.reduceToNat, Int.reduceNeg, Int.reduceEq, Int.reduceLT, Int.reduceLE, Int.reduceAdd, Int.reduceSub, Int.reduceMul, Int.reduceBEq, Int.reduceBNe, Int.reduceGT, Int.reduceGE, beq_self_eq_true, bne_self_eq_false]
  refine s_markSession s.dec s.eof s.buf.max s.buf.gone (st.length + 2) (st.length + 3) 2 2 1 s.buf.runes s.buf.longs (own_get _ _ 2) (own_get _ _ 3) (by omega) (by decide) (by decide) (by omega) (by omega) (by omega) ?_
  have hd : decide (1 + (s.buf.runes.length : Int) + s.buf.longs.length < 0) = false := by simp; omega
  simp -dsimp -implicitDefEqProofs +contextual (maxSteps := 3000000) (disch := omega) only [go_sem, ↓reduceIte, reduceCtorEq, Nat.reduceEqDiff, Nat.reduceAdd, Nat.reduceSub, Nat.reduceMul, Nat.reduceLeDiff, Nat.reduceBEq, Int.reduceToNat, Int.reduceNeg, Int.reduceEq, Int.reduceLT, Int.reduceLE, Int.reduceAdd, Int.reduceSub, Int.reduceMul, Int.reduceBEq, Int.reduceBNe, Int.reduceGT, Int.reduceGE, beq_self_eq_true, bne_self_eq_false, hd]
  refine s_eqG r (st.length + 5) e1 e2 (own_get _ _ 5) (own_get _ _ 6) n1 n2 k1 k2 ?_
  simp -dsimp -implicitDefEqProofs +contextual (maxSteps := 3000000) (disch := omega) only [go_sem, ↓reduceIte, reduceCtorEq, Nat.reduceEqDiff, Nat.reduceAdd, Nat.reduceSub, Nat.reduceMul, Nat.reduceLeDiff, Nat.reduceBEq, Int.reduceToNat, Int.reduceNeg, Int.reduceEq, Int.reduceLT, Int.reduceLE, Int.reduceAdd, Int.reduceSub, Int.reduceMul, Int.reduceBEq, Int.reduceBNe, Int.reduceGT, Int.reduceGE, beq_self_eq_true, bne_self_eq_false, hd]
  refine s_eqL g (st.length + 7) e3 (own_get _ _ 7) n3 k3 ?_
  simp -dsimp -implicitDefEqProofs +contextual (maxSteps := 3000000) (disch := omega) only [go_sem, ↓reduceIte, reduceCtorEq, Nat.reduceEqDiff, Nat.reduceAdd, Nat.reduceSub, Nat.reduceMul, Nat.reduceLeDiff, Nat.reduceBEq, Int.reduceToNat, Int.reduceNeg, Int.reduceEq, Int.reduceLT, Int.reduceLE, Int.reduceAdd, Int.reduceSub, Int.reduceMul, Int.reduceBEq, Int.reduceBNe, Int.reduceGT, Int.reduceGE, beq_self_eq_true, bne_self_eq_false, hd]
  refine s_markSession r.dec r.eof r.buf.max r.buf.gone (st.length + 5) (st.length + 6) e1 e2 1 r.buf.runes r.buf.longs (own_get _ _ 5) (own_get _ _ 6) (by omega) n1 n2 (by omega) (by omega) (by omega) ?_
  simp -dsimp -implicitDefEqProofs +contextual (maxSteps := 3000000) (disch := omega) only [go_sem, ↓reduceIte, reduceCtorEq, Nat.reduceEqDiff, Nat.reduceAdd, Nat.reduceSub, Nat.reduceMul, Nat.reduceLeDiff, Nat.reduceBEq, Int.reduceToNat, Int.reduceNeg, Int.reduceEq, Int.reduceLT, Int.reduceLE, Int.reduceAdd, Int.reduceSub, Int.reduceMul, Int.reduceBEq, Int.reduceBNe, Int.reduceGT, Int.reduceGE, beq_self_eq_true, bne_self_eq_false]
  refine s_markInts (st.length + 7) 0 e3 (1 + r.buf.runes.length + r.buf.longs.length) g (own_get _ _ 7) n3 (by omega) (by omega) ?_
  simp -dsimp -implicitDefEqProofs +contextual (maxSteps := 3000000) (disch := omega) only [go_sem, ↓reduceIte, reduceCtorEq, Nat.reduceEqDiff, Nat.reduceAdd, Nat.reduceSub, Nat.reduceMul, Nat.reduceLeDiff, Nat.reduceBEq, Int.reduceToNat, Int.reduceNeg, Int.reduceEq, Int.reduceLT, Int.reduceLE, Int.reduceAdd, Int.reduceSub, Int.reduceMul, Int.reduceBEq, Int.reduceBNe, Int.reduceGT, Int.reduceGE, beq_self_eq_true, bne_self_eq_false]
  refine s_heldSession r.dec r.eof r.buf.max r.buf.gone (st.length + 5) (st.length + 6) e1 e2 1 r.buf.runes.length r.buf.longs.length (own_get _ _ 5) (own_get _ _ 6) n1 n2 (by omega) (by omega) (by omega) ?_
  simp -dsimp -implicitDefEqProofs +contextual (maxSteps := 3000000) (disch := omega) only [go_sem, ↓reduceIte, reduceCtorEq, Nat.reduceEqDiff, Nat.reduceAdd, Nat.reduceSub, Nat.reduceMul, Nat.reduceLeDiff, Nat.reduceBEq, Int.reduceToNat, Int.reduceNeg, Int.reduceEq, Int.reduceLT, Int.reduceLE, Int.reduceAdd, Int.reduceSub, Int.reduceMul, Int.reduceBEq, Int.reduceBNe, Int.reduceGT, Int.reduceGE, beq_self_eq_true, bne_self_eq_false]
  refine gcase.dec (fun hneg => by omega) (fun _ => ?_)
  refine s_heldIntS (st.length + 7) 0 e3 (1 + r.buf.runes.length + r.buf.longs.length) g.length (own_get _ _ 7) n3 (by omega) (by omega) ?_
  simp -dsimp -implicitDefEqProofs +contextual (maxSteps := 3000000) (disch := omega) only [go_sem, ↓reduceIte, reduceCtorEq, Nat.reduceEqDiff, Nat.reduceAdd, Nat.reduceSub, Nat.reduceMul, Nat.reduceLeDiff, Nat.reduceBEq, Int.reduceToNat, Int.reduceNeg, Int.reduceEq, Int.reduceLT, Int.reduceLE, Int.reduceAdd, Int.reduceSub, Int.reduceMul, Int.reduceBEq, Int.reduceBNe, Int.reduceGT, Int.reduceGE, beq_self_eq_true, bne_self_eq_false]
  refine gcase.dec (fun hneg => by omega) (fun _ => ?_)
  refine s_toSessionI s (by omega) (by omega) ?_
  simp -dsimp -implicitDefEqProofs +contextual (maxSteps := 3000000) (disch := omega) only [go_sem, ↓reduceIte, reduceCtorEq, Nat.reduceEqDiff, Nat.reduceAdd, Nat.reduceSub, Nat.reduceMul, Nat.reduceLeDiff, Nat.reduceBEq, Int.reduceToNat, Int.reduceNeg, Int.reduceEq, Int.reduceLT, Int.reduceLE, Int.reduceAdd, Int.reduceSub, Int.reduceMul, Int.reduceBEq, Int.reduceBNe, Int.reduceGT, Int.reduceGE, beq_self_eq_true, bne_self_eq_false]
  refine hE _ _ fun f1 f2 f3 q1 q2 q3 => ?_
  simp -dsimp -implicitDefEqProofs +contextual (maxSteps := 3000000) (disch := omega) only [go_sem, ↓reduceIte, reduceCtorEq, Nat.reduceEqDiff, Nat.reduceAdd, Nat.reduceSub, Nat.reduceMul, Nat.reduceLeDiff, Nat.reduceBEq, Int.reduceToNat, Int.reduceNeg, Int.reduceEq, Int.reduceLT, Int.reduceLE, Int.reduceAdd, Int.reduceSub, Int.reduceMul, Int.reduceBEq, Int.reduceBNe, Int.reduceGT, Int.reduceGE, beq_self_eq_true, bne_self_eq_false, outV, outB, sessV, Dec.cells, Nat.add_assoc]
  refine s_eqG r (st.length + 9) f1 f2 (own_get _ _ 9) (own_get _ _ 10) q1 q2 k1 k2 ?_
  simp -dsimp -implicitDefEqProofs +contextual (maxSteps := 3000000) (disch := omega) only [go_sem, ↓reduceIte, reduceCtorEq, Nat.reduceEqDiff, Nat.reduceAdd, Nat.reduceSub, Nat.reduceMul, Nat.reduceLeDiff, Nat.reduceBEq, Int.reduceToNat, Int.reduceNeg, Int.reduceEq, Int.reduceLT, Int.reduceLE, Int.reduceAdd, Int.reduceSub, Int.reduceMul, Int.reduceBEq, Int.reduceBNe, Int.reduceGT, Int.reduceGE, beq_self_eq_true, bne_self_eq_false]
  refine s_eqL g (st.length + 11) f3 (own_get _ _ 11) q3 k3 ?_
  simp -dsimp -implicitDefEqProofs +contextual (maxSteps := 3000000) (disch := omega) only [go_sem, ↓reduceIte, reduceCtorEq, Nat.reduceEqDiff, Nat.reduceAdd, Nat.reduceSub, Nat.reduceMul, Nat.reduceLeDiff, Nat.reduceBEq, Int.reduceToNat, Int.reduceNeg, Int.reduceEq, Int.reduceLT, Int.reduceLE, Int.reduceAdd, Int.reduceSub, Int.reduceMul, Int.reduceBEq, Int.reduceBNe, Int.reduceGT, Int.reduceGE, beq_self_eq_true, bne_self_eq_false]
  refine s_heldSession r.dec r.eof r.buf.max r.buf.gone (st.length + 5) (st.length + 6) e1 e2 1 r.buf.runes.length r.buf.longs.length (own_get _ _ 5) (own_get _ _ 6) n1 n2 (by omega) (by omega) (by omega) ?_
  simp -dsimp -implicitDefEqProofs +contextual (maxSteps := 3000000) (disch := omega) only [go_sem, ↓reduceIte, reduceCtorEq, Nat.reduceEqDiff, Nat.reduceAdd, Nat.reduceSub, Nat.reduceMul, Nat.reduceLeDiff, Nat.reduceBEq, Int.reduceToNat, Int.reduceNeg, Int.reduceEq, Int.reduceLT, Int.reduceLE, Int.reduceAdd, Int.reduceSub, Int.reduceMul, Int.reduceBEq, Int.reduceBNe, Int.reduceGT, Int.reduceGE, beq_self_eq_true, bne_self_eq_false]
  refine gcase.dec (fun hneg => by omega) (fun _ => ?_)
  refine s_heldIntS (st.length + 7) 0 e3 (1 + r.buf.runes.length + r.buf.longs.length) g.length (own_get _ _ 7) n3 (by omega) (by omega) ?_
  simp -dsimp -implicitDefEqProofs +contextual (maxSteps := 3000000) (disch := omega) only [go_sem, ↓reduceIte, reduceCtorEq, Nat.reduceEqDiff, Nat.reduceAdd, Nat.reduceSub, Nat.reduceMul, Nat.reduceLeDiff, Nat.reduceBEq, Int.reduceToNat, Int.reduceNeg, Int.reduceEq, Int.reduceLT, Int.reduceLE, Int.reduceAdd, Int.reduceSub, Int.reduceMul, Int.reduceBEq, Int.reduceBNe, Int.reduceGT, Int.reduceGE, beq_self_eq_true, bne_self_eq_false]
  refine gcase.dec (fun hneg => by omega) (fun _ => ?_)
  exact Fin.pure (Base.refl _) rfl h

end Go.VS
