/- Contracts: the program's EndSession. -/
import Derived.Test.YtjklhbmkajabdaaDoorF16
import Derived.Test.YtjklhbmkajabdaaDoorVs22
set_option linter.all false
namespace Go.VS
open Go Go.RowKit
set_option maxRecDepth 10000

theorem s_BufClone (b : Bf) (h1 : b.runes.length ≤ 4294967296) (h2 : b.longs.length ≤ 4294967296) {st : Store} {K : V → Store → Prop} (h : K (.agg b.cells) st) : Spec Proofs.Tryd.prog 36 [.agg b.cells] st K := by
  refine Spec.of_fd fd_impl_Buf_clone rfl ?_
  simp -dsimp -implicitDefEqProofs +contextual (maxSteps := 3000000) (disch := omega) only [go_sem, ↓reduceIte, reduceCtorEq, Nat.reduceEqDiff, Nat.reduceAdd, Nat.reduceSub, Nat.reduceMul, Nat.reduceLeDiff, Nat.reduceBEq, Int.reduceToNat, Int.reduceNeg, Int.reduceEq, Int.reduceLT, Int.reduceLE, Int.reduceAdd, Int.reduceSub, Int.reduceMul, Int.reduceBEq, Int.reduceBNe, Int.reduceGT, Int.reduceGE, beq_self_eq_true, bne_self_eq_false, c_impl_Buf_clone, Bf.cells, V.ints]
  refine oneH.go _ (s_Clone _ h1 ⟨rfl, rfl⟩) ?_
  simp -dsimp -implicitDefEqProofs +contextual (maxSteps := 3000000) (disch := omega) only [go_sem, ↓reduceIte, reduceCtorEq, Nat.reduceEqDiff, Nat.reduceAdd, Nat.reduceSub, Nat.reduceMul, Nat.reduceLeDiff, Nat.reduceBEq, Int.reduceToNat, Int.reduceNeg, Int.reduceEq, Int.reduceLT, Int.reduceLE, Int.reduceAdd, Int.reduceSub, Int.reduceMul, Int.reduceBEq, Int.reduceBNe, Int.reduceGT, Int.reduceGE, beq_self_eq_true, bne_self_eq_false, V.ints]
  refine oneH.go _ (s_Clone _ h2 ⟨rfl, rfl⟩) ?_
  simp -dsimp -implicitDefEqProofs +contextual (maxSteps := 3000000) (disch := omega) only [go_sem, ↓reduceIte, reduceCtorEq, Nat.reduceEqDiff, Nat.reduceAdd, Nat.reduceSub, Nat.reduceMul, Nat.reduceLeDiff, Nat.reduceBEq, Int.reduceToNat, Int.reduceNeg, Int.reduceEq, Int.reduceLT, Int.reduceLE, Int.reduceAdd, Int.reduceSub, Int.reduceMul, Int.reduceBEq, Int.reduceBNe, Int.reduceGT, Int.reduceGE, beq_self_eq_true, bne_self_eq_false, V.ints]
  exact Fin.pure (Base.refl _) rfl h

theorem s_SessClone (s : Sess) (h1 : s.buf.runes.length ≤ 4294967296) (h2 : s.buf.longs.length ≤ 4294967296) {st : Store} {K : V → Store → Prop} (h : K (.agg s.cells) st) : Spec Proofs.Tryd.prog 22 [.agg s.cells] st K := by
  refine Spec.of_fd fd_impl_Session_clone rfl ?_
  simp -dsimp -implicitDefEqProofs +contextual (maxSteps := 3000000) (disch := omega) only [go_sem, ↓reduceIte, reduceCtorEq, Nat.reduceEqDiff, Nat.reduceAdd, Nat.reduceSub, Nat.reduceMul, Nat.reduceLeDiff, Nat.reduceBEq, Int.reduceToNat, Int.reduceNeg, Int.reduceEq, Int.reduceLT, Int.reduceLE, Int.reduceAdd, Int.reduceSub, Int.reduceMul, Int.reduceBEq, Int.reduceBNe, Int.reduceGT, Int.reduceGE, beq_self_eq_true, bne_self_eq_false, c_impl_Session_clone, Sess.cells, Dec.cells, Bf.cells, V.ints]
  refine s_BufClone s.buf h1 h2 ?_
  simp -dsimp -implicitDefEqProofs +contextual (maxSteps := 3000000) (disch := omega) only [go_sem, ↓reduceIte, reduceCtorEq, Nat.reduceEqDiff, Nat.reduceAdd, Nat.reduceSub, Nat.reduceMul, Nat.reduceLeDiff, Nat.reduceBEq, Int.reduceToNat, Int.reduceNeg, Int.reduceEq, Int.reduceLT, Int.reduceLE, Int.reduceAdd, Int.reduceSub, Int.reduceMul, Int.reduceBEq, Int.reduceBNe, Int.reduceGT, Int.reduceGE, beq_self_eq_true, bne_self_eq_false, Bf.cells, V.ints]
  exact Fin.pure (Base.refl _) rfl h

theorem s_end (s : Sess) (id ver : Nat) {st : Store} (hb : st[id]? = some ⟨2, ver, 1, s.cells⟩) (hgood : s.good = true) (hh : s.dec.held.length ≤ 4194304) {K : V → Store → Prop}
    (h : ∀ e1 e2 e3, e1 ≠ 0 → e2 ≠ 0 → e3 ≠ 0 → K (.tup [.ref st.length 0 0 (s.buf.putG (bads s.dec.rest.length)).length, .x (.bool (s.buf.putB (bads s.dec.rest.length) s.dec.rest).good)])
      (st.set id ⟨2, ver, 1, s.dec.shut.cells ++ (bufV s.buf.max (st.length + 1) 0 (s.buf.putB (bads s.dec.rest.length) s.dec.rest).runes.length (st.length + 2) 0 (s.buf.putB (bads s.dec.rest.length) s.dec.rest).longs.length (s.buf.putB (bads s.dec.rest.length) s.dec.rest).gone ++ [.x (.bool true)])⟩ ++
        [.of e1 0 (s.buf.putG (bads s.dec.rest.length)), .of e2 0 (s.buf.putB (bads s.dec.rest.length) s.dec.rest).runes, .of e3 0 (s.buf.putB (bads s.dec.rest.length) s.dec.rest).longs])) :
    Spec Proofs.Tryd.prog 23 [.ptr id ver 0] st K := by
  have hid := getElem?_lt hb
  simp only [Sess.good, Bool.and_eq_true] at hgood
  refine Spec.of_fd fd_impl_Session_end rfl ?_
  simp -dsimp -implicitDefEqProofs +contextual (maxSteps := 3000000) (disch := omega) only [go_sem, ↓reduceIte, reduceCtorEq, Nat.reduceEqDiff, Nat.reduceAdd, Nat.reduceSub, Nat.reduceMul, Nat.reduceLeDiff, Nat.reduceBEq, Int.reduceToNat, Int.reduceNeg, Int.reduceEq, Int.reduceLT, Int.reduceLE, Int.reduceAdd, Int.reduceSub, Int.reduceMul, Int.reduceBEq, Int.reduceBNe, Int.reduceGT, Int.reduceGE, beq_self_eq_true, bne_self_eq_false, c_impl_Session_end, getH_at hb]
  refine s_flush s.dec id ver [] (s.buf.cells ++ [.x (.bool s.eof)]) (by simpa [Sess.cells] using hb) hh ?_ ?_
  · simp -dsimp -implicitDefEqProofs +contextual (maxSteps := 3000000) (disch := omega) only [go_sem, ↓reduceIte, reduceCtorEq, Nat.reduceEqDiff, Nat.reduceAdd, Nat.reduceSub, Nat.reduceMul, Nat.reduceLeDiff, Nat.reduceBEq, Int.reduceToNat, Int.reduceNeg, Int.reduceEq, Int.reduceLT, Int.reduceLE, Int.reduceAdd, Int.reduceSub, Int.reduceMul, Int.reduceBEq, Int.reduceBNe, Int.reduceGT, Int.reduceGE, beq_self_eq_true, bne_self_eq_false, Dec.shut, Dec.cells, Bf.cells]
    have hr : ∀ x ∈ s.dec.rest, 1 ≤ x ∧ x ≤ 1000 := fun x hx => by
      unfold Dec.rest at hx
      have hl : (if unitsC s.dec.en then 2 else 1) = 1 ∨ (if unitsC s.dec.en then 2 else 1) = 2 := by split <;> simp
      have := chunks_bd (long := if unitsC s.dec.en then 2 else 1) (by omega) s.dec.held.length _ (Nat.le_refl _) x hx
      omega
    have hrl : s.dec.rest.length ≤ s.dec.held.length := by
      unfold Dec.rest
      exact chunks_len (by split <;> omega) _ _ (Nat.le_refl _)
    refine s_put s.buf (bads s.dec.rest.length) s.dec.rest id ver s.dec.shut.cells [.x (.bool true)] (by rw [List.getElem?_set_self hid]; rfl) hgood.1.2 (bads_len _).symm (by rw [bads_len]; omega) hr (fun e1 e2 e3 h1 h2 h3 => ?_)
    simp only [List.length_set, List.set_set]
    have h := h e1 e2 e3 h1 h2 h3
    simp -dsimp -implicitDefEqProofs +contextual (maxSteps := 3000000) (disch := omega) only [go_sem, ↓reduceIte, reduceCtorEq, Nat.reduceEqDiff, Nat.reduceAdd, Nat.reduceSub, Nat.reduceMul, Nat.reduceLeDiff, Nat.reduceBEq, Int.reduceToNat, Int.reduceNeg, Int.reduceEq, Int.reduceLT, Int.reduceLE, Int.reduceAdd, Int.reduceSub, Int.reduceMul, Int.reduceBEq, Int.reduceBNe, Int.reduceGT, Int.reduceGE, beq_self_eq_true, bne_self_eq_false]
    exact Fin.refl h
  · simp only [Dec.shut, Dec.cells, Bf.cells, List.nil_append, List.cons_append, V.under.all, V.under]
    rfl

@[go_sem high] theorem Blk.of_ren (t : List (Nat × Nat × Nat)) (e ver : Nat) (xs : List Int) : Blk.ren t (Blk.of e ver xs) = Blk.of e 0 xs := by
  unfold Blk.ren Blk.of
  cases (e == 2) <;> simp [icells_ren]
@[go_sem] theorem Blk.of_ver (e ver : Nat) (xs : List Int) : (Blk.of e ver xs).ver = ver := rfl
@[go_sem] theorem Blk.of_kind (e ver : Nat) (xs : List Int) : (Blk.of e ver xs).kind = e := rfl
@[go_sem] theorem Blk.of_sz (e ver : Nat) (xs : List Int) : (Blk.of e ver xs).sz = 1 := rfl
@[go_sem] theorem Blk.of_cells (e ver : Nat) (xs : List Int) : (Blk.of e ver xs).cells = icells xs := rfl
@[go_sem] theorem icells_take (xs : List Int) : (icells xs).take xs.length = icells xs := icells_all xs rfl
@[go_sem] theorem icells_append (xs ys : List Int) : icells xs ++ icells ys = icells (xs ++ ys) := by simp [icells]
@[go_sem] theorem frzC_of (e ver : Nat) (xs : List Int) : frzC (Blk.of e ver xs) 0 xs.length = V.ints xs := frzC_ints xs e ver
@[go_sem] theorem blk_of (e ver : Nat) (xs : List Int) : Blk.mk e ver 1 (icells xs) = Blk.of e ver xs := rfl

/-- What EndSession tells. -/
def Sess.shut (s : Sess) : Sess := ⟨s.dec.shut, s.buf.putB (bads s.dec.rest.length) s.dec.rest, true⟩
def Sess.gone (s : Sess) : List Int := s.buf.putG (bads s.dec.rest.length)
def Sess.zero : Sess := ⟨⟨0, 0, 0, []⟩, ⟨0, [], [], 0⟩, false⟩
def Sess.ends (s : Sess) : Bool := s.good && !s.eof && s.shut.buf.good
def Sess.endS (s : Sess) : Sess := bif s.ends then s.shut else Sess.zero
def Sess.endG (s : Sess) : List Int := bif s.ends then s.gone else []

/-- A session and a list, in three blocks. -/
def outV (s : Sess) (g : List Int) (m : Nat) : List V := [sessV s.dec s.buf.max m s.buf.runes.length (m + 1) s.buf.longs.length s.buf.gone s.eof, .ref (m + 2) 0 0 g.length]
def outB (s : Sess) (g : List Int) (e1 e2 e3 : Nat) : Store := [.of e1 0 s.buf.runes, .of e2 0 s.buf.longs, .of e3 0 g]

theorem s_EndSession (s : Sess) (h1 : s.buf.runes.length ≤ 4194304) (h2 : s.buf.longs.length ≤ 4194304) (hh : s.dec.held.length ≤ 4194304) {st : Store} {K : V → Store → Prop}
    (h : ∀ e1 e2 e3, e1 ≠ 0 → e2 ≠ 0 → e3 ≠ 0 → K (.tup (outV s.endS s.endG st.length ++ [.x (.bool s.ends)])) (st ++ outB s.endS s.endG e1 e2 e3)) :
    Spec Proofs.Tryd.prog 7 [.agg s.cells] st K := by
  refine Spec.of_fd fd_impl_EndSession rfl ?_
  have hN : ∀ l, s.ends = false → Fin st K (.tup [.agg [.x (.int .i64 0), .x (.int .i64 0), .x (.int .i64 0), .x (.string ⟨#[]⟩), .x (.int .i64 0), .x (.slice none 0 0), .x (.slice none 0 0), .x (.int .i64 0), .x (.bool false)], .x (.slice none 0 0), .x (.bool false)]) (st ++ l) := fun l he => by
    have h := h 1 1 1 (by decide) (by decide) (by decide)
    unfold Sess.endS Sess.endG at h
    rw [he] at h
    refine Fin.trans (Fin.pure (Base.refl _) rfl ?_)
    refine Fin.pushN 1 (Fin.pushN 1 (Fin.pushN 1 (Fin.alt (r' := .tup (outV Sess.zero [] st.length ++ [.x (.bool false)])) ?_ (Fin.refl ?_))))
    · have g0 : (st ++ [⟨1, 0, 1, []⟩] ++ [⟨1, 0, 1, []⟩] ++ [⟨1, 0, 1, []⟩] : Store)[st.length]? = some ⟨1, 0, 1, []⟩ := by simp
      have g1 : (st ++ [⟨1, 0, 1, []⟩] ++ [⟨1, 0, 1, []⟩] ++ [⟨1, 0, 1, []⟩] : Store)[st.length + 1]? = some ⟨1, 0, 1, []⟩ := by simp
      have g2 : (st ++ [⟨1, 0, 1, []⟩] ++ [⟨1, 0, 1, []⟩] ++ [⟨1, 0, 1, []⟩] : Store)[st.length + 2]? = some ⟨1, 0, 1, []⟩ := by simp
      exact Alt.tup (.cons (Alt.agg (.cons .refl (.cons .refl (.cons .refl (.cons .refl (.cons .refl (.cons (Alt.nil g0) (.cons (Alt.nil g1) (.cons .refl (.cons .refl .nil)))))))))) (.cons (Alt.nil g2) (.cons .refl .nil)))
    · simpa [outB, Blk.of, Sess.zero, icells] using h
  simp -dsimp -implicitDefEqProofs +contextual (maxSteps := 3000000) (disch := omega) only [go_sem, ↓reduceIte, reduceCtorEq, Nat.reduceEqDiff, Nat.reduceAdd, Nat.reduceSub, Nat.reduceMul, Nat.reduceLeDiff, Nat.reduceBEq, Int.reduceToNat, Int.reduceNeg, Int.reduceEq, Int.reduceLT, Int.reduceLE, Int.reduceAdd, Int.reduceSub, Int.reduceMul, Int.reduceBEq, Int.reduceBNe, Int.reduceGT, Int.reduceGE, beq_self_eq_true, bne_self_eq_false, c_impl_EndSession, Sess.cells, Dec.cells, Bf.cells, V.ints]
  refine s_GoodSession s (by omega) (by omega) (by omega) ?_
  simp -dsimp -implicitDefEqProofs +contextual (maxSteps := 3000000) (disch := omega) only [go_sem, ↓reduceIte, reduceCtorEq, Nat.reduceEqDiff, Nat.reduceAdd, Nat.reduceSub, Nat.reduceMul, Nat.reduceLeDiff, Nat.reduceBEq, Int.reduceToNat, Int.reduceNeg, Int.reduceEq, Int.reduceLT, Int.reduceLE, Int.reduceAdd, Int.reduceSub, Int.reduceMul, Int.reduceBEq, Int.reduceBNe, Int.reduceGT, Int.reduceGE, beq_self_eq_true, bne_self_eq_false]
  refine gcase.mk (fun hg => gcase.mk (fun he => hN _ (by simp [Sess.ends, he])) (fun he => ?_)) (fun hg => hN _ (by simp [Sess.ends, hg]))
  refine s_SessClone ⟨s.dec, s.buf, false⟩ (by show s.buf.runes.length ≤ _; omega) (by show s.buf.longs.length ≤ _; omega) ?_
  simp -dsimp -implicitDefEqProofs +contextual (maxSteps := 3000000) (disch := omega) only [go_sem, ↓reduceIte, reduceCtorEq, Nat.reduceEqDiff, Nat.reduceAdd, Nat.reduceSub, Nat.reduceMul, Nat.reduceLeDiff, Nat.reduceBEq, Int.reduceToNat, Int.reduceNeg, Int.reduceEq, Int.reduceLT, Int.reduceLE, Int.reduceAdd, Int.reduceSub, Int.reduceMul, Int.reduceBEq, Int.reduceBNe, Int.reduceGT, Int.reduceGE, beq_self_eq_true, bne_self_eq_false, Sess.cells, Dec.cells, Bf.cells, V.ints]
  refine s_end s (st.length + 2) 0 (by rw [own_get]; simp [Sess.cells, Dec.cells, Bf.cells, he]) hg hh (fun e1 e2 e3 n1 n2 n3 => ?_)
  have hl1 : s.dec.shut.cells = [.x (.int .i64 s.dec.en), .x (.int .i64 s.dec.shift), .x (.int .i64 s.dec.loose), .x (.string (bytes []))] := rfl
  rw [hl1]
  simp -dsimp -implicitDefEqProofs +contextual (maxSteps := 3000000) (disch := omega) only [go_sem, ↓reduceIte, reduceCtorEq, Nat.reduceEqDiff, Nat.reduceAdd, Nat.reduceSub, Nat.reduceMul, Nat.reduceLeDiff, Nat.reduceBEq, Int.reduceToNat, Int.reduceNeg, Int.reduceEq, Int.reduceLT, Int.reduceLE, Int.reduceAdd, Int.reduceSub, Int.reduceMul, Int.reduceBEq, Int.reduceBNe, Int.reduceGT, Int.reduceGE, beq_self_eq_true, bne_self_eq_false, bufV, Nat.add_assoc]
  refine gcase.mk (fun hb => ?_) (fun hb => hN _ (by simp [Sess.ends, Sess.shut, hb]))
  have hE : s.ends = true := by simp [Sess.ends, Sess.shut, hb, hg, he]
  have h := h e2 e3 e1 n2 n3 n1
  unfold Sess.endS Sess.endG at h
  rw [hE] at h
  simp only [cond_true] at h
  unfold Sess.shut Sess.gone at h
  have hmx : (s.buf.putB (bads s.dec.rest.length) s.dec.rest).max = s.buf.max := rfl
  generalize s.buf.putB (bads s.dec.rest.length) s.dec.rest = b' at *
  generalize s.buf.putG (bads s.dec.rest.length) = g' at *
  refine Fin.sel (Base.refl _) [4, 5, 3] [.of e2 0 b'.runes, .of e3 0 b'.longs, .of e1 0 g'] rfl (by simp [Blk.of, n1, n2, n3]) (by decide) ?_
  simp only [List.map_cons, List.map_nil, Blk.of_ren]
  simp -dsimp -implicitDefEqProofs +contextual (maxSteps := 3000000) (disch := omega) only [go_sem, ↓reduceIte, reduceCtorEq, Nat.reduceEqDiff, Nat.reduceAdd, Nat.reduceSub, Nat.reduceMul, Nat.reduceLeDiff, Nat.reduceBEq, Int.reduceToNat, Int.reduceNeg, Int.reduceEq, Int.reduceLT, Int.reduceLE, Int.reduceAdd, Int.reduceSub, Int.reduceMul, Int.reduceBEq, Int.reduceBNe, Int.reduceGT, Int.reduceGE, beq_self_eq_true, bne_self_eq_false, Nat.add_left_inj, Nat.add_right_inj]
  simp only [outV, outB, sessV, Dec.cells, Dec.shut, hmx, List.cons_append, List.nil_append] at h
  exact h

end Go.VS
