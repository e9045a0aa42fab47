/- Contracts: buffers take and let go. -/
import Derived.Test.YtjklhbmkajabdaaDoorF15
set_option linter.all false
namespace Go.VS
open Go Go.RowKit
set_option maxRecDepth 10000

/-- A buffer's parts, its lists in blocks. -/
def bufV (mx : Int) (r1 v1 n1 r2 v2 n2 : Nat) (gn : Int) : List V := [.x (.int .i64 mx), .ref r1 v1 0 n1, .ref r2 v2 0 n2, .x (.int .i64 gn)]

theorem s_take (b : Bf) (n : Nat) (id ver : Nat) (pre post : List V) {st : Store} (hb : st[id]? = some ⟨2, ver, 1, pre ++ (b.cells ++ post)⟩) (hn : n ≤ b.runes.length) (hl : b.longs.length = b.runes.length) (hs : b.runes.length ≤ 4294967296)
    (hg : 0 ≤ b.gone ∧ b.gone ≤ 4294967296) (hbd : ∀ x ∈ b.longs, 1 ≤ x ∧ x ≤ 1000) {K : V → Store → Prop}
    (h : ∀ e1 e2 e3, e1 ≠ 0 → e2 ≠ 0 → e3 ≠ 0 → K (.ref st.length 0 0 (b.runes.take n).length)
      (st.set id ⟨2, ver, 1, pre ++ (bufV b.max (st.length + 1) 0 (b.runes.drop n).length (st.length + 2) 0 (b.longs.drop n).length (b.gone + isum (b.longs.take n)) ++ post)⟩ ++ [.of e1 0 (b.runes.take n), .of e2 0 (b.runes.drop n), .of e3 0 (b.longs.drop n)])) :
    Spec Proofs.Tryd.prog 58 [.ptr id ver pre.length, .x (.int .i64 n)] st K := by
  have hid := getElem?_lt hb
  refine Spec.of_fd fd_impl_Buf_take rfl ?_
  simp -dsimp -implicitDefEqProofs +contextual (maxSteps := 3000000) (disch := omega) only [go_sem, ↓reduceIte, reduceCtorEq, Nat.reduceEqDiff, Nat.reduceAdd, Nat.reduceSub, Nat.reduceMul, Nat.reduceLeDiff, Nat.reduceBEq, Int.reduceToNat, Int.reduceNeg, Int.reduceEq, Int.reduceLT, Int.reduceLE, Int.reduceAdd, Int.reduceSub, Int.reduceMul, Int.reduceBEq, Int.reduceBNe, Int.reduceGT, Int.reduceGE, beq_self_eq_true, bne_self_eq_false, c_impl_Buf_take, getH_at hb, Bf.cells, V.ints, List.drop_zero, Int.toNat_natCast]
  refine ⟨by omega, by omega, s_CloneO _ (by simp; omega) (fun e1 he1 _ => ?_)⟩
  simp -dsimp -implicitDefEqProofs +contextual (maxSteps := 3000000) (disch := omega) only [go_sem, ↓reduceIte, reduceCtorEq, Nat.reduceEqDiff, Nat.reduceAdd, Nat.reduceSub, Nat.reduceMul, Nat.reduceLeDiff, Nat.reduceBEq, Int.reduceToNat, Int.reduceNeg, Int.reduceEq, Int.reduceLT, Int.reduceLE, Int.reduceAdd, Int.reduceSub, Int.reduceMul, Int.reduceBEq, Int.reduceBNe, Int.reduceGT, Int.reduceGE, beq_self_eq_true, bne_self_eq_false, getH_at hb, Bf.cells, V.ints, List.drop_zero, List.take_succ_cons, List.take_zero]
  refine ⟨by omega, s_bytes b n (by omega) (by omega) hg hbd ?_⟩
  simp -dsimp -implicitDefEqProofs +contextual (maxSteps := 3000000) (disch := omega) only [go_sem, ↓reduceIte, reduceCtorEq, Nat.reduceEqDiff, Nat.reduceAdd, Nat.reduceSub, Nat.reduceMul, Nat.reduceLeDiff, Nat.reduceBEq, Int.reduceToNat, Int.reduceNeg, Int.reduceEq, Int.reduceLT, Int.reduceLE, Int.reduceAdd, Int.reduceSub, Int.reduceMul, Int.reduceBEq, Int.reduceBNe, Int.reduceGT, Int.reduceGE, beq_self_eq_true, bne_self_eq_false, getH_at hb, Bf.cells, V.ints, List.drop_zero, Int.toNat_natCast]
  have hd1 : (b.runes.drop n).length ≤ 4294967296 := by simp; omega
  have hd2 : (b.longs.drop n).length ≤ 4294967296 := by simp; omega
  refine ⟨by omega, ?_⟩
  repeat' (first
    | omega
    | (with_reducible refine And.intro ?_ ?_)
    | ((with_reducible refine SpecH.of (s_CloneO _ hd1 (fun _ _ _ => ?_))); simp -dsimp -implicitDefEqProofs +contextual (maxSteps := 3000000) (disch := omega) only [go_sem, ↓reduceIte, reduceCtorEq, Nat.reduceEqDiff, Nat.reduceAdd, Nat.reduceSub, Nat.reduceMul, Nat.reduceLeDiff, Nat.reduceBEq, Int.reduceToNat, Int.reduceNeg, Int.reduceEq, Int.reduceLT, Int.reduceLE, Int.reduceAdd, Int.reduceSub, Int.reduceMul, Int.reduceBEq, Int.reduceBNe, Int.reduceGT, Int.reduceGE, beq_self_eq_true, bne_self_eq_false, V.ints])
    | ((with_reducible refine SpecH.of (s_CloneO _ hd2 (fun _ _ _ => ?_))); simp -dsimp -implicitDefEqProofs +contextual (maxSteps := 3000000) (disch := omega) only [go_sem, ↓reduceIte, reduceCtorEq, Nat.reduceEqDiff, Nat.reduceAdd, Nat.reduceSub, Nat.reduceMul, Nat.reduceLeDiff, Nat.reduceBEq, Int.reduceToNat, Int.reduceNeg, Int.reduceEq, Int.reduceLT, Int.reduceLE, Int.reduceAdd, Int.reduceSub, Int.reduceMul, Int.reduceBEq, Int.reduceBNe, Int.reduceGT, Int.reduceGE, beq_self_eq_true, bne_self_eq_false, V.ints])
    | exact Fin.refl (h _ _ _ he1 ‹_› ‹_›))

/-- What is put into a buffer, and what goes: how many. -/
def Bf.over (b : Bf) (k : Nat) : Nat := b.runes.length + k - b.max.toNat
def Bf.join (b : Bf) (rs ls : List Int) : Bf := ⟨b.max, b.runes ++ rs, b.longs ++ ls, b.gone⟩
/-- The first so many let go. -/
def Bf.cut (b : Bf) (n : Nat) : Bf := ⟨b.max, b.runes.drop n, b.longs.drop n, b.gone + isum (b.longs.take n)⟩
def Bf.putB (b : Bf) (rs ls : List Int) : Bf := (b.join rs ls).cut (b.over rs.length)
def Bf.putG (b : Bf) (rs : List Int) : List Int := (b.runes ++ rs).take (b.over rs.length)

theorem lists2 (xs ys : List Int) : V.sl 2 1 (cut 2 1 fun i j => ([V.sl xs.length 1 (intsF xs), V.sl ys.length 1 (intsF ys)][i + j]?).getD V.bad) = V.lists [xs, ys] := by
  unfold V.lists listsF
  congr 1
  funext i j
  unfold VS.cut
  by_cases h : i < 2 ∧ j < 1
  · rw [if_pos h]
    show _ = if i < 2 ∧ j < 1 then V.ints ([xs, ys].getD i []) else V.bad
    rw [if_pos h]
    obtain rfl : j = 0 := by omega
    obtain rfl | rfl : i = 0 ∨ i = 1 := by omega
    · rfl
    · rfl
  · rw [if_neg h]
    show _ = if i < 2 ∧ j < 1 then V.ints ([xs, ys].getD i []) else V.bad
    rw [if_neg h]

theorem flatten2 (xs ys : List Int) : [xs, ys].flatten = xs ++ ys := by simp

theorem s_put (b : Bf) (rs ls : List Int) (id ver : Nat) (pre post : List V) {st : Store} (hb : st[id]? = some ⟨2, ver, 1, pre ++ (b.cells ++ post)⟩) (hgood : b.good = true) (hl : ls.length = rs.length) (hs : rs.length ≤ 4194304)
    (hbd : ∀ x ∈ ls, 1 ≤ x ∧ x ≤ 1000) {K : V → Store → Prop}
    (h : ∀ e1 e2 e3, e1 ≠ 0 → e2 ≠ 0 → e3 ≠ 0 → K (.tup [.ref st.length 0 0 (b.putG rs).length, .x (.bool (b.putB rs ls).good)])
      (st.set id ⟨2, ver, 1, pre ++ (bufV b.max (st.length + 1) 0 (b.putB rs ls).runes.length (st.length + 2) 0 (b.putB rs ls).longs.length (b.putB rs ls).gone ++ post)⟩ ++ [.of e1 0 (b.putG rs), .of e2 0 (b.putB rs ls).runes, .of e3 0 (b.putB rs ls).longs])) :
    Spec Proofs.Tryd.prog 38 [.ptr id ver pre.length, V.ints rs, V.ints ls] st K := by
  have hid := getElem?_lt hb
  simp only [Bf.good, Bool.and_eq_true] at hgood
  obtain ⟨⟨⟨⟨⟨g1, g2⟩, g3⟩, g4⟩, g5⟩, g6⟩ := hgood
  refine Spec.of_fd fd_impl_Buf_put rfl ?_
  simp -dsimp -implicitDefEqProofs +contextual (maxSteps := 3000000) (disch := omega) only [go_sem, ↓reduceIte, reduceCtorEq, Nat.reduceEqDiff, Nat.reduceAdd, Nat.reduceSub, Nat.reduceMul, Nat.reduceLeDiff, Nat.reduceBEq, Int.reduceToNat, Int.reduceNeg, Int.reduceEq, Int.reduceLT, Int.reduceLE, Int.reduceAdd, Int.reduceSub, Int.reduceMul, Int.reduceBEq, Int.reduceBNe, Int.reduceGT, Int.reduceGE, beq_self_eq_true, bne_self_eq_false, c_impl_Buf_put, getH_at hb, Bf.cells, V.ints]
  have hml : b.max ≤ 60 := by simp [inR] at g1; omega
  have hm1 : 1 ≤ b.max := by simp [inR] at g1; omega
  have hrl : (b.runes.length : Int) ≤ b.max := by simpa using g2
  have hll : b.longs.length = b.runes.length := by have := g4; simp at this; omega
  have hgn : 0 ≤ b.gone ∧ b.gone ≤ 1000000 := by simpa [inR] using g5
  have hlb : ∀ x ∈ b.longs, 1 ≤ x ∧ x ≤ 1000 := fun x hx => by have := List.all_eq_true.1 g6 x hx; simpa [inR] using this
  obtain ⟨rj, hrj⟩ : ∃ rj, b.runes ++ rs = rj := ⟨_, rfl⟩
  obtain ⟨lj, hlj⟩ : ∃ lj, b.longs ++ ls = lj := ⟨_, rfl⟩
  have hrjl : rj.length = b.runes.length + rs.length := by rw [← hrj]; simp
  have hljl : lj.length = b.longs.length + ls.length := by rw [← hlj]; simp
  rw [lists2]
  refine oneH.go _ (s_Concat [b.runes, rs] (by simp) (by rw [flatten2]; simp; omega) ⟨rfl, rfl⟩) ?_
  rw [flatten2, hrj]
  simp -dsimp -implicitDefEqProofs +contextual (maxSteps := 3000000) (disch := omega) only [go_sem, ↓reduceIte, reduceCtorEq, Nat.reduceEqDiff, Nat.reduceAdd, Nat.reduceSub, Nat.reduceMul, Nat.reduceLeDiff, Nat.reduceBEq, Int.reduceToNat, Int.reduceNeg, Int.reduceEq, Int.reduceLT, Int.reduceLE, Int.reduceAdd, Int.reduceSub, Int.reduceMul, Int.reduceBEq, Int.reduceBNe, Int.reduceGT, Int.reduceGE, beq_self_eq_true, bne_self_eq_false, getH_at hb, Bf.cells, V.ints]
  rw [lists2]
  refine oneH.go _ (s_Concat [b.longs, ls] (by simp) (by rw [flatten2]; simp; omega) ⟨rfl, rfl⟩) ?_
  rw [flatten2, hlj]
  simp -dsimp -implicitDefEqProofs +contextual (maxSteps := 3000000) (disch := omega) only [go_sem, ↓reduceIte, reduceCtorEq, Nat.reduceEqDiff, Nat.reduceAdd, Nat.reduceSub, Nat.reduceMul, Nat.reduceLeDiff, Nat.reduceBEq, Int.reduceToNat, Int.reduceNeg, Int.reduceEq, Int.reduceLT, Int.reduceLE, Int.reduceAdd, Int.reduceSub, Int.reduceMul, Int.reduceBEq, Int.reduceBNe, Int.reduceGT, Int.reduceGE, beq_self_eq_true, bne_self_eq_false, getH_at hb, Bf.cells, V.ints]
  have e1 : IntKind.i64.wrap ((rj.length : Int) - b.max) = rj.length - b.max := wrap_i64 (by omega)
  have e2 : (if (rj.length : Int) - b.max > 0 then (rj.length : Int) - b.max else 0) = ((b.over rs.length : Nat) : Int) := by
    unfold Bf.over; split <;> omega
  rw [e1, e2]
  have hlj2 : ∀ x ∈ lj, 1 ≤ x ∧ x ≤ 1000 := fun x hx => by
    rw [← hlj, List.mem_append] at hx
    rcases hx with hx | hx
    · exact hlb x hx
    · exact hbd x hx
  have hov : b.over rs.length ≤ rj.length := by unfold Bf.over; omega
  have eB : b.putB rs ls = (⟨b.max, rj.drop (b.over rs.length), lj.drop (b.over rs.length), b.gone + isum (lj.take (b.over rs.length))⟩ : Bf) := by
    unfold Bf.putB Bf.join Bf.cut; rw [hrj, hlj]
  have eG : b.putG rs = rj.take (b.over rs.length) := by unfold Bf.putG; rw [hrj]
  rw [eB, eG] at h
  generalize b.over rs.length = n at *
  refine ⟨by omega, by omega, .i64, rfl, rfl, ?_⟩
  refine s_take ⟨b.max, rj, lj, b.gone⟩ n id ver pre post (by rw [List.getElem?_set_self hid]; rfl) hov (by show lj.length = rj.length; omega) (by show rj.length ≤ _; omega) ⟨hgn.1, by show b.gone ≤ _; omega⟩ hlj2 (fun e1 e2 e3 h1 h2 h3 => ?_)
  simp only [List.length_set, List.set_set]
  have h := h e1 e2 e3 h1 h2 h3
  generalize hrd : rj.drop n = rd at *
  generalize hld : lj.drop n = ld at *
  generalize rj.take n = rt at *
  generalize b.gone + isum (lj.take n) = gn at *
  simp -dsimp -implicitDefEqProofs +contextual (maxSteps := 3000000) (disch := omega) only [go_sem, ↓reduceIte, reduceCtorEq, Nat.reduceEqDiff, Nat.reduceAdd, Nat.reduceSub, Nat.reduceMul, Nat.reduceLeDiff, Nat.reduceBEq, Int.reduceToNat, Int.reduceNeg, Int.reduceEq, Int.reduceLT, Int.reduceLE, Int.reduceAdd, Int.reduceSub, Int.reduceMul, Int.reduceBEq, Int.reduceBNe, Int.reduceGT, Int.reduceGE, beq_self_eq_true, bne_self_eq_false, bufV]
  refine ⟨by omega, ?_⟩
  have hrdl : rd.length ≤ 4611686018427387904 := by rw [← hrd]; simp; omega
  have hldl : ld.length ≤ 4611686018427387904 := by rw [← hld]; simp; omega
  have hlen : (st.set id ⟨2, ver, 1, pre ++ V.x (.int .i64 b.max) :: .ref (st.length + 1) 0 0 rd.length :: .ref (st.length + 2) 0 0 ld.length :: .x (.int .i64 gn) :: post⟩).length = st.length := by simp
  refine Spec.seeF (args' := [.agg (⟨b.max, rd, ld, gn⟩ : Bf).cells]) (.cons (Sees.aggA (.cons (Sees.pure rfl) (.cons (Sees.ints (Nat.zero_le _) (by have := own_get (st.set id ⟨2, ver, 1, pre ++ V.x (.int .i64 b.max) :: .ref (st.length + 1) 0 0 rd.length :: .ref (st.length + 2) 0 0 ld.length :: .x (.int .i64 gn) :: post⟩) [Blk.of e1 0 rt, Blk.of e2 0 rd, Blk.of e3 0 ld] 1; rw [hlen] at this; exact this) h2 rfl)
    (.cons (Sees.ints (Nat.zero_le _) (by have := own_get (st.set id ⟨2, ver, 1, pre ++ V.x (.int .i64 b.max) :: .ref (st.length + 1) 0 0 rd.length :: .ref (st.length + 2) 0 0 ld.length :: .x (.int .i64 gn) :: post⟩) [Blk.of e1 0 rt, Blk.of e2 0 rd, Blk.of e3 0 ld] 2; rw [hlen] at this; exact this) h3 rfl) (.cons (Sees.pure rfl) .nil))))) .nil) ?_
  refine s_GoodBuf _ hrdl hldl ⟨rfl, rfl, ?_⟩
  simp -dsimp -implicitDefEqProofs +contextual (maxSteps := 3000000) (disch := omega) only [go_sem, ↓reduceIte, reduceCtorEq, Nat.reduceEqDiff, Nat.reduceAdd, Nat.reduceSub, Nat.reduceMul, Nat.reduceLeDiff, Nat.reduceBEq, Int.reduceToNat, Int.reduceNeg, Int.reduceEq, Int.reduceLT, Int.reduceLE, Int.reduceAdd, Int.reduceSub, Int.reduceMul, Int.reduceBEq, Int.reduceBNe, Int.reduceGT, Int.reduceGE, beq_self_eq_true, bne_self_eq_false]
  exact Fin.refl h

end Go.VS
