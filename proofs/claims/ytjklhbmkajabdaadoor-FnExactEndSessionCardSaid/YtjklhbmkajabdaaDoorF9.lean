/- Contracts: marks. -/
import Derived.Test.YtjklhbmkajabdaaDoorF8
set_option linter.all false
namespace Go.VS
open Go Go.RowKit
set_option maxRecDepth 10000

/-- A block of the caller's. -/
theorem getH_at {st : Store} {id : Nat} {b : Blk} (h : st[id]? = some b) (ver : Nat) (K : Blk → Prop) (u : Tag K) : getH st id ver K u = (b.ver = ver ∧ b.kind ≠ 0 ∧ K b) := by
  unfold getH getB; rw [h]
@[go_sem] theorem getH_set {st : Store} {id : Nat} {b : Blk} (h : id < st.length) (ver : Nat) (K : Blk → Prop) (u : Tag K) : getH (st.set id b) id ver K u = (b.ver = ver ∧ b.kind ≠ 0 ∧ K b) :=
  getH_at (by rw [List.getElem?_set_self h]) ver K u
@[go_sem] theorem getH_set_ne {st : Store} {id id' : Nat} {b : Blk} (h : id ≠ id') (ver : Nat) (K : Blk → Prop) (u : Tag K) : getH (st.set id b) id' ver K u = getH st id' ver K u := by
  unfold getH getB; rw [List.getElem?_set_ne h]
@[go_sem] theorem getH_app {st l : Store} {id : Nat} (h : id < st.length) (ver : Nat) (K : Blk → Prop) (u : Tag K) : getH (st ++ l) id ver K u = getH st id ver K u := by
  unfold getH getB; rw [List.getElem?_append_left h]
@[go_sem] theorem set_app {st l : Store} {id : Nat} (h : id < st.length) (b : Blk) : (st ++ l).set id b = st.set id b ++ l := by
  rw [List.set_append_left _ _ h]
attribute [go_sem] List.set_set
@[go_sem] theorem getH_own_set (st l : Store) (i : Nat) (b : Blk) (k ver : Nat) (K : Blk → Prop) : getH (st.set i b ++ l) (st.length + k) ver K = getH l k ver K := by
  have := getH_own (st.set i b) l k ver K
  rwa [List.length_set] at this
@[go_sem] theorem getH_own_set0 (st l : Store) (i : Nat) (b : Blk) (ver : Nat) (K : Blk → Prop) : getH (st.set i b ++ l) st.length ver K = getH l 0 ver K := getH_own_set st l i b 0 ver K
@[go_sem] theorem getH_own_set2 (st l : Store) (i j : Nat) (b c : Blk) (k ver : Nat) (K : Blk → Prop) : getH ((st.set i b).set j c ++ l) (st.length + k) ver K = getH l k ver K := by
  have := getH_own ((st.set i b).set j c) l k ver K
  rwa [List.length_set, List.length_set] at this
@[go_sem] theorem getH_own_set20 (st l : Store) (i j : Nat) (b c : Blk) (ver : Nat) (K : Blk → Prop) : getH ((st.set i b).set j c ++ l) st.length ver K = getH l 0 ver K := getH_own_set2 st l i j b c 0 ver K
@[go_sem] theorem set_own_set (st l : Store) (i : Nat) (b : Blk) (k : Nat) (c : Blk) : (st.set i b ++ l).set (st.length + k) c = st.set i b ++ l.set k c := by
  have := set_own (st.set i b) l k c
  rwa [List.length_set] at this
@[go_sem] theorem set_own_set0 (st l : Store) (i : Nat) (b : Blk) (c : Blk) : (st.set i b ++ l).set st.length c = st.set i b ++ l.set 0 c := set_own_set st l i b 0 c

/-- A list in a block. -/
def Blk.of (e ver : Nat) (xs : List Int) : Blk := ⟨e, ver, 1, icells xs⟩

/-- k, k + 1, .. -/
def marks (k : Int) (n : Nat) : List Int := (List.range n).map fun (i : Nat) => k + (i : Int)

theorem marks_len (k : Int) (n : Nat) : (marks k n).length = n := by simp [marks]
theorem marks_succ (k : Int) (n : Nat) : marks k (n + 1) = marks k n ++ [k + n] := by simp [marks, List.range_succ]
theorem marks_get (k : Int) {n i : Nat} (h : i < n) : (marks k n).getD i 0 = k + i := by simp [marks, h]

/-- Cells that are marked up to some place. -/
def marked (k : Int) (cs : List V) (i : Nat) : List V := icells (marks k i) ++ cs.drop i

theorem marked_zero (k : Int) (cs : List V) : marked k cs 0 = cs := by simp [marked, marks, icells]
theorem marked_len (k : Int) (cs : List V) {i : Nat} (h : i ≤ cs.length) : (marked k cs i).length = cs.length := by simp [marked, icells, marks_len]; omega
theorem marked_all (k : Int) (cs : List V) : marked k cs cs.length = icells (marks k cs.length) := by simp [marked]
theorem marked_set (k : Int) (cs : List V) {i : Nat} (h : i < cs.length) : (marked k cs i).set i (.x (.int .i64 (k + i))) = marked k cs (i + 1) := by
  unfold marked
  rw [marks_succ, List.set_append_right _ _ (by simp [icells, marks_len])]
  simp only [icells, List.length_map, marks_len, Nat.sub_self, List.map_append, List.map_cons, List.map_nil, List.append_assoc]
  rw [List.drop_eq_getElem_cons h, List.set_cons_zero]
  rfl

theorem s_markIntS (id ver e : Nat) (k : Int) (cs : List V) {st : Store} (hb : st[id]? = some ⟨e, ver, 1, cs⟩) (he : e ≠ 0) (hk : 0 ≤ k ∧ k ≤ 4611686018427387904) (hn : cs.length ≤ 4294967296) {K : V → Store → Prop}
    (h : K (.x (.int .i64 (k + cs.length))) (st.set id ⟨e, ver, 1, icells (marks k cs.length)⟩)) : Spec Proofs.Tryd.prog 11 [.ref id ver 0 cs.length, .x (.int .i64 k)] st K := by
  have hid := getElem?_lt hb
  refine Spec.of_fd fd_laws_markIntS rfl ?_
  simp -dsimp -implicitDefEqProofs +contextual (maxSteps := 3000000) (disch := omega) only [go_sem, ↓reduceIte, reduceCtorEq, Nat.reduceEqDiff, Nat.reduceAdd, Nat.reduceSub, Nat.reduceMul, Nat.reduceLeDiff, Nat.reduceBEq, Int.reduceToNat, Int.reduceNeg, Int.reduceEq, Int.reduceLT, Int.reduceLE, Int.reduceAdd, Int.reduceSub, Int.reduceMul, Int.reduceBEq, Int.reduceBNe, Int.reduceGT, Int.reduceGE, beq_self_eq_true, bne_self_eq_false, c_laws_markIntS]
  refine LoopC.intro (fun n ρ st' => ∃ i : Nat, n = cs.length - i ∧ i ≤ cs.length ∧ st' = st.set id ⟨e, ver, 1, marked k cs i⟩ ∧ lk ρ 0 = .ref id ver 0 cs.length ∧ lk ρ 1 = .x (.int .i64 (k + i)) ∧ lk ρ 5 = .x (.int .i64 i)) cs.length
    (Weak.refl ⟨0, by simp, by simp, ?_, by simp [lk], by simp [lk], by simp [lk]⟩) ?_
  · rw [marked_zero]; exact (set_same hb).symm
  rintro n ρ st' ⟨i, rfl, hi', rfl, h0, h1, h5⟩
  simp -dsimp -implicitDefEqProofs +contextual (maxSteps := 3000000) (disch := omega) only [go_sem, ↓reduceIte, reduceCtorEq, Nat.reduceEqDiff, Nat.reduceAdd, Nat.reduceSub, Nat.reduceMul, Nat.reduceLeDiff, Nat.reduceBEq, Int.reduceToNat, Int.reduceNeg, Int.reduceEq, Int.reduceLT, Int.reduceLE, Int.reduceAdd, Int.reduceSub, Int.reduceMul, Int.reduceBEq, Int.reduceBNe, Int.reduceGT, Int.reduceGE, beq_self_eq_true, bne_self_eq_false, h0, h1, h5]
  have hm : (marked k cs i).length = cs.length := marked_len k cs hi'
  refine ⟨he, gcase.dec (fun hlt => ?_) (fun hge => ?_)⟩
  · have hlt' : i < cs.length := by omega
    rw [marked_set k cs hlt']
    simp (disch := omega) only [wrap_i64, IntWalk.u8_in, Int.tdiv_eq_ediv_of_nonneg, Int.tmod_eq_emod_of_nonneg]
    refine ⟨he, by omega, hlt, he, by omega, loopE.go (cs.length - (i + 1)) (by omega) (Weak.refl ⟨i + 1, rfl, by omega, rfl, ?_⟩)⟩
    simp -dsimp -implicitDefEqProofs +contextual (maxSteps := 3000000) (disch := omega) only [go_sem, ↓reduceIte, reduceCtorEq, Nat.reduceEqDiff, Nat.reduceAdd, Nat.reduceSub, Nat.reduceMul, Nat.reduceLeDiff, Nat.reduceBEq, Int.reduceToNat, Int.reduceNeg, Int.reduceEq, Int.reduceLT, Int.reduceLE, Int.reduceAdd, Int.reduceSub, Int.reduceMul, Int.reduceBEq, Int.reduceBNe, Int.reduceGT, Int.reduceGE, beq_self_eq_true, bne_self_eq_false, h0]
    exact ⟨by simp; omega, by simp⟩
  · have e1 : i = cs.length := by omega
    subst e1
    rw [marked_all]
    exact Fin.refl h

theorem s_markInts (id ver e : Nat) (k : Int) (xs : List Int) {st : Store} (hb : st[id]? = some (.of e ver xs)) (he : e ≠ 0) (hk : 0 ≤ k ∧ k ≤ 4611686018427387904) (hn : xs.length ≤ 4294967296) {K : V → Store → Prop}
    (h : K (.x (.int .i64 (k + xs.length))) (st.set id (.of e ver (marks k xs.length)))) : Spec Proofs.Tryd.prog 11 [.ref id ver 0 xs.length, .x (.int .i64 k)] st K := by
  have := s_markIntS id ver e k (icells xs) hb he hk (by simpa [icells] using hn) (K := K)
  simp only [icells_len] at this
  exact this h

theorem icells_get {xs : List Int} {i : Nat} (h : i < xs.length) : (icells xs)[i]? = some (.x (.int .i64 (xs.getD i 0))) := by simp [icells, h]

theorem s_heldIntS (id ver e : Nat) (k : Int) (n : Nat) {st : Store} (hb : st[id]? = some ⟨e, ver, 1, icells (marks k n)⟩) (he : e ≠ 0) (hk : 0 ≤ k ∧ k ≤ 4611686018427387904) (hn : n ≤ 4294967296) {K : V → Store → Prop}
    (h : K (.x (.int .i64 (k + n))) st) : Spec Proofs.Tryd.prog 13 [.ref id ver 0 n, .x (.int .i64 k)] st K := by
  have hid := getElem?_lt hb
  refine Spec.of_fd fd_laws_heldIntS rfl ?_
  simp -dsimp -implicitDefEqProofs +contextual (maxSteps := 3000000) (disch := omega) only [go_sem, ↓reduceIte, reduceCtorEq, Nat.reduceEqDiff, Nat.reduceAdd, Nat.reduceSub, Nat.reduceMul, Nat.reduceLeDiff, Nat.reduceBEq, Int.reduceToNat, Int.reduceNeg, Int.reduceEq, Int.reduceLT, Int.reduceLE, Int.reduceAdd, Int.reduceSub, Int.reduceMul, Int.reduceBEq, Int.reduceBNe, Int.reduceGT, Int.reduceGE, beq_self_eq_true, bne_self_eq_false, c_laws_heldIntS]
  refine LoopC.intro (fun m ρ st' => ∃ i : Nat, m = n - i ∧ i ≤ n ∧ st' = st ∧ lk ρ 0 = .ref id ver 0 n ∧ lk ρ 1 = .x (.int .i64 (k + i)) ∧ lk ρ 5 = .x (.int .i64 i)) n
    (Weak.refl ⟨0, by simp, by simp, rfl, by simp [lk], by simp [lk], by simp [lk]⟩) ?_
  rintro m ρ st' ⟨i, rfl, hi', rfl, h0, h1, h5⟩
  simp -dsimp -implicitDefEqProofs +contextual (maxSteps := 3000000) (disch := omega) only [go_sem, ↓reduceIte, reduceCtorEq, Nat.reduceEqDiff, Nat.reduceAdd, Nat.reduceSub, Nat.reduceMul, Nat.reduceLeDiff, Nat.reduceBEq, Int.reduceToNat, Int.reduceNeg, Int.reduceEq, Int.reduceLT, Int.reduceLE, Int.reduceAdd, Int.reduceSub, Int.reduceMul, Int.reduceBEq, Int.reduceBNe, Int.reduceGT, Int.reduceGE, beq_self_eq_true, bne_self_eq_false, h0, h1, h5, getH_at hb]
  refine ⟨he, gcase.dec (fun hlt => ?_) (fun hge => ?_)⟩
  · have hlt' : i < n := by omega
    have hg := icells_get (xs := marks k n) (i := i) (by rw [marks_len]; exact hlt')
    rw [marks_get k hlt'] at hg
    simp -dsimp -implicitDefEqProofs +contextual (maxSteps := 3000000) (disch := omega) only [go_sem, ↓reduceIte, reduceCtorEq, Nat.reduceEqDiff, Nat.reduceAdd, Nat.reduceSub, Nat.reduceMul, Nat.reduceLeDiff, Nat.reduceBEq, Int.reduceToNat, Int.reduceNeg, Int.reduceEq, Int.reduceLT, Int.reduceLE, Int.reduceAdd, Int.reduceSub, Int.reduceMul, Int.reduceBEq, Int.reduceBNe, Int.reduceGT, Int.reduceGE, beq_self_eq_true, bne_self_eq_false, hg, h1, h5]
    simp (disch := omega) only [wrap_i64, IntWalk.u8_in, Int.tdiv_eq_ediv_of_nonneg, Int.tmod_eq_emod_of_nonneg]
    refine ⟨he, by omega, hlt, he, loopE.go (n - (i + 1)) (by omega) (Weak.refl ⟨i + 1, rfl, by omega, rfl, ?_⟩)⟩
    simp -dsimp -implicitDefEqProofs +contextual (maxSteps := 3000000) (disch := omega) only [go_sem, ↓reduceIte, reduceCtorEq, Nat.reduceEqDiff, Nat.reduceAdd, Nat.reduceSub, Nat.reduceMul, Nat.reduceLeDiff, Nat.reduceBEq, Int.reduceToNat, Int.reduceNeg, Int.reduceEq, Int.reduceLT, Int.reduceLE, Int.reduceAdd, Int.reduceSub, Int.reduceMul, Int.reduceBEq, Int.reduceBNe, Int.reduceGT, Int.reduceGE, beq_self_eq_true, bne_self_eq_false, h0]
    exact ⟨by simp; omega, by simp⟩
  · have e1 : i = n := by omega
    subst e1
    exact Fin.refl h

theorem icells_under (xs : List Int) (m : Nat) : V.under.all m (icells xs) = true := by
  induction xs with
  | nil => rfl
  | cons x r ih => simp [icells, V.under.all, V.under] at *; exact ih

theorem s_markBuf (mx gn : Int) (r1 r2 e1 e2 : Nat) (k : Int) (xs ys : List Int) {st : Store} (h1 : st[r1]? = some (.of e1 0 xs)) (h2 : st[r2]? = some (.of e2 0 ys)) (hne : r1 ≠ r2) (he1 : e1 ≠ 0) (he2 : e2 ≠ 0) (hk : 0 ≤ k ∧ k ≤ 4294967296)
    (hx : xs.length ≤ 4294967296) (hy : ys.length ≤ 4294967296) {K : V → Store → Prop} (h : K (.x (.int .i64 (k + xs.length + ys.length))) ((st.set r1 (.of e1 0 (marks k xs.length))).set r2 (.of e2 0 (marks (k + xs.length) ys.length)))) :
    Spec Proofs.Tryd.prog 26 [.agg [.x (.int .i64 mx), .ref r1 0 0 xs.length, .ref r2 0 0 ys.length, .x (.int .i64 gn)], .x (.int .i64 k)] st K := by
  have hl1 := getElem?_lt h1
  have hl2 := getElem?_lt h2
  refine Spec.of_fd fd_laws_markBuf rfl ?_
  simp -dsimp -implicitDefEqProofs +contextual (maxSteps := 3000000) (disch := omega) only [go_sem, ↓reduceIte, reduceCtorEq, Nat.reduceEqDiff, Nat.reduceAdd, Nat.reduceSub, Nat.reduceMul, Nat.reduceLeDiff, Nat.reduceBEq, Int.reduceToNat, Int.reduceNeg, Int.reduceEq, Int.reduceLT, Int.reduceLE, Int.reduceAdd, Int.reduceSub, Int.reduceMul, Int.reduceBEq, Int.reduceBNe, Int.reduceGT, Int.reduceGE, beq_self_eq_true, bne_self_eq_false, c_laws_markBuf]
  refine s_markInts r1 0 e1 k xs (getElem?_left _ h1) he1 (by omega) hx ?_
  simp -dsimp -implicitDefEqProofs +contextual (maxSteps := 3000000) (disch := omega) only [go_sem, ↓reduceIte, reduceCtorEq, Nat.reduceEqDiff, Nat.reduceAdd, Nat.reduceSub, Nat.reduceMul, Nat.reduceLeDiff, Nat.reduceBEq, Int.reduceToNat, Int.reduceNeg, Int.reduceEq, Int.reduceLT, Int.reduceLE, Int.reduceAdd, Int.reduceSub, Int.reduceMul, Int.reduceBEq, Int.reduceBNe, Int.reduceGT, Int.reduceGE, beq_self_eq_true, bne_self_eq_false]
  have h2' : (st.set r1 (Blk.of e1 0 (marks k xs.length)))[r2]? = some (.of e2 0 ys) := by rw [List.getElem?_set_ne hne]; exact h2
  refine s_markInts r2 0 e2 (k + xs.length) ys (getElem?_left _ h2') he2 (by omega) hy ?_
  have hl2' : r2 < (st.set r1 (Blk.of e1 0 (marks k xs.length))).length := by simpa using hl2
  simp -dsimp -implicitDefEqProofs +contextual (maxSteps := 3000000) (disch := omega) only [go_sem, ↓reduceIte, reduceCtorEq, Nat.reduceEqDiff, Nat.reduceAdd, Nat.reduceSub, Nat.reduceMul, Nat.reduceLeDiff, Nat.reduceBEq, Int.reduceToNat, Int.reduceNeg, Int.reduceEq, Int.reduceLT, Int.reduceLE, Int.reduceAdd, Int.reduceSub, Int.reduceMul, Int.reduceBEq, Int.reduceBNe, Int.reduceGT, Int.reduceGE, beq_self_eq_true, bne_self_eq_false]
  exact Fin.pure (((Base.refl _).set _ _ (icells_under _ _)).set _ _ (icells_under _ _)) rfl h

theorem s_heldBuf (mx gn : Int) (r1 r2 e1 e2 : Nat) (k : Int) (n1 n2 : Nat) {st : Store} (h1 : st[r1]? = some (.of e1 0 (marks k n1))) (h2 : st[r2]? = some (.of e2 0 (marks (k + n1) n2))) (he1 : e1 ≠ 0) (he2 : e2 ≠ 0) (hk : 0 ≤ k ∧ k ≤ 4294967296)
    (hx : n1 ≤ 4294967296) (hy : n2 ≤ 4294967296) {K : V → Store → Prop} (h : K (.x (.int .i64 (k + n1 + n2))) st) :
    Spec Proofs.Tryd.prog 27 [.agg [.x (.int .i64 mx), .ref r1 0 0 n1, .ref r2 0 0 n2, .x (.int .i64 gn)], .x (.int .i64 k)] st K := by
  refine Spec.of_fd fd_laws_heldBuf rfl ?_
  simp -dsimp -implicitDefEqProofs +contextual (maxSteps := 3000000) (disch := omega) only [go_sem, ↓reduceIte, reduceCtorEq, Nat.reduceEqDiff, Nat.reduceAdd, Nat.reduceSub, Nat.reduceMul, Nat.reduceLeDiff, Nat.reduceBEq, Int.reduceToNat, Int.reduceNeg, Int.reduceEq, Int.reduceLT, Int.reduceLE, Int.reduceAdd, Int.reduceSub, Int.reduceMul, Int.reduceBEq, Int.reduceBNe, Int.reduceGT, Int.reduceGE, beq_self_eq_true, bne_self_eq_false, c_laws_heldBuf]
  refine s_heldIntS _ _ e1 _ _ (getElem?_left _ h1) he1 (by omega) hx ?_
  simp -dsimp -implicitDefEqProofs +contextual (maxSteps := 3000000) (disch := omega) only [go_sem, ↓reduceIte, reduceCtorEq, Nat.reduceEqDiff, Nat.reduceAdd, Nat.reduceSub, Nat.reduceMul, Nat.reduceLeDiff, Nat.reduceBEq, Int.reduceToNat, Int.reduceNeg, Int.reduceEq, Int.reduceLT, Int.reduceLE, Int.reduceAdd, Int.reduceSub, Int.reduceMul, Int.reduceBEq, Int.reduceBNe, Int.reduceGT, Int.reduceGE, beq_self_eq_true, bne_self_eq_false]
  refine gcase.dec (fun hlt => by omega) (fun hge => ?_)
  refine s_heldIntS _ _ e2 _ _ (getElem?_left _ h2) he2 (by omega) hy ?_
  simp -dsimp -implicitDefEqProofs +contextual (maxSteps := 3000000) (disch := omega) only [go_sem, ↓reduceIte, reduceCtorEq, Nat.reduceEqDiff, Nat.reduceAdd, Nat.reduceSub, Nat.reduceMul, Nat.reduceLeDiff, Nat.reduceBEq, Int.reduceToNat, Int.reduceNeg, Int.reduceEq, Int.reduceLT, Int.reduceLE, Int.reduceAdd, Int.reduceSub, Int.reduceMul, Int.reduceBEq, Int.reduceBNe, Int.reduceGT, Int.reduceGE, beq_self_eq_true, bne_self_eq_false]
  refine gcase.dec (fun hlt => by omega) (fun hge => ?_)
  exact Fin.pure (Base.refl _) rfl h

/-- A session's parts with its lists in blocks r1, r2. -/
def sessV (d : Dec) (mx : Int) (r1 n1 r2 n2 : Nat) (gn : Int) (eof : Bool) : V :=
  .agg (d.cells ++ [.x (.int .i64 mx), .ref r1 0 0 n1, .ref r2 0 0 n2, .x (.int .i64 gn), .x (.bool eof)])

theorem s_markSession (d : Dec) (eof : Bool) (mx gn : Int) (r1 r2 e1 e2 : Nat) (k : Int) (xs ys : List Int) {st : Store} (h1 : st[r1]? = some (.of e1 0 xs)) (h2 : st[r2]? = some (.of e2 0 ys)) (hne : r1 ≠ r2) (he1 : e1 ≠ 0) (he2 : e2 ≠ 0) (hk : 0 ≤ k ∧ k ≤ 4294967296)
    (hx : xs.length ≤ 4294967296) (hy : ys.length ≤ 4294967296) {K : V → Store → Prop} (h : K (.x (.int .i64 (k + xs.length + ys.length))) ((st.set r1 (.of e1 0 (marks k xs.length))).set r2 (.of e2 0 (marks (k + xs.length) ys.length)))) :
    Spec Proofs.Tryd.prog 10 [sessV d mx r1 xs.length r2 ys.length gn eof, .x (.int .i64 k)] st K := by
  have hl1 := getElem?_lt h1
  have hl2 := getElem?_lt h2
  refine Spec.of_fd fd_laws_markSession rfl ?_
  simp -dsimp -implicitDefEqProofs +contextual (maxSteps := 3000000) (disch := omega) only [go_sem, ↓reduceIte, reduceCtorEq, Nat.reduceEqDiff, Nat.reduceAdd, Nat.reduceSub, Nat.reduceMul, Nat.reduceLeDiff, Nat.reduceBEq, Int.reduceToNat, Int.reduceNeg, Int.reduceEq, Int.reduceLT, Int.reduceLE, Int.reduceAdd, Int.reduceSub, Int.reduceMul, Int.reduceBEq, Int.reduceBNe, Int.reduceGT, Int.reduceGE, beq_self_eq_true, bne_self_eq_false, c_laws_markSession, sessV, Dec.cells]
  refine s_markBuf mx gn r1 r2 e1 e2 k xs ys (getElem?_left _ h1) (getElem?_left _ h2) hne he1 he2 hk hx hy ?_
  have hl2' : r2 < (st.set r1 (Blk.of e1 0 (marks k xs.length))).length := by simpa using hl2
  simp -dsimp -implicitDefEqProofs +contextual (maxSteps := 3000000) (disch := omega) only [go_sem, ↓reduceIte, reduceCtorEq, Nat.reduceEqDiff, Nat.reduceAdd, Nat.reduceSub, Nat.reduceMul, Nat.reduceLeDiff, Nat.reduceBEq, Int.reduceToNat, Int.reduceNeg, Int.reduceEq, Int.reduceLT, Int.reduceLE, Int.reduceAdd, Int.reduceSub, Int.reduceMul, Int.reduceBEq, Int.reduceBNe, Int.reduceGT, Int.reduceGE, beq_self_eq_true, bne_self_eq_false]
  exact Fin.pure (((Base.refl _).set _ _ (icells_under _ _)).set _ _ (icells_under _ _)) rfl h

theorem s_heldSession (d : Dec) (eof : Bool) (mx gn : Int) (r1 r2 e1 e2 : Nat) (k : Int) (n1 n2 : Nat) {st : Store} (h1 : st[r1]? = some (.of e1 0 (marks k n1))) (h2 : st[r2]? = some (.of e2 0 (marks (k + n1) n2))) (he1 : e1 ≠ 0) (he2 : e2 ≠ 0) (hk : 0 ≤ k ∧ k ≤ 4294967296)
    (hx : n1 ≤ 4294967296) (hy : n2 ≤ 4294967296) {K : V → Store → Prop} (h : K (.x (.int .i64 (k + n1 + n2))) st) :
    Spec Proofs.Tryd.prog 12 [sessV d mx r1 n1 r2 n2 gn eof, .x (.int .i64 k)] st K := by
  refine Spec.of_fd fd_laws_heldSession rfl ?_
  simp -dsimp -implicitDefEqProofs +contextual (maxSteps := 3000000) (disch := omega) only [go_sem, ↓reduceIte, reduceCtorEq, Nat.reduceEqDiff, Nat.reduceAdd, Nat.reduceSub, Nat.reduceMul, Nat.reduceLeDiff, Nat.reduceBEq, Int.reduceToNat, Int.reduceNeg, Int.reduceEq, Int.reduceLT, Int.reduceLE, Int.reduceAdd, Int.reduceSub, Int.reduceMul, Int.reduceBEq, Int.reduceBNe, Int.reduceGT, Int.reduceGE, beq_self_eq_true, bne_self_eq_false, c_laws_heldSession, sessV, Dec.cells]
  refine s_heldBuf mx gn r1 r2 e1 e2 k n1 n2 (getElem?_left _ h1) (getElem?_left _ h2) he1 he2 hk hx hy ?_
  simp -dsimp -implicitDefEqProofs +contextual (maxSteps := 3000000) (disch := omega) only [go_sem, ↓reduceIte, reduceCtorEq, Nat.reduceEqDiff, Nat.reduceAdd, Nat.reduceSub, Nat.reduceMul, Nat.reduceLeDiff, Nat.reduceBEq, Int.reduceToNat, Int.reduceNeg, Int.reduceEq, Int.reduceLT, Int.reduceLE, Int.reduceAdd, Int.reduceSub, Int.reduceMul, Int.reduceBEq, Int.reduceBNe, Int.reduceGT, Int.reduceGE, beq_self_eq_true, bne_self_eq_false]
  refine gcase.dec (fun hlt => by omega) (fun hge => ?_)
  exact Fin.pure (Base.refl _) rfl h

/-! ### Sizes -/

theorem s_szIntS (xs : List Int) (l : Int) (hl : 0 ≤ l ∧ l ≤ 1048576) (hx : xs.length ≤ 9223372036854775807) {st : Store} {K : V → Store → Prop} (h1 : l < xs.length → K (.x (.int .i64 (-1))) st) (h2 : (xs.length : Int) ≤ l → K (.x (.int .i64 (l - xs.length))) st) :
    Spec Proofs.Tryd.prog 28 [V.ints xs, .x (.int .i64 l)] st K := by
  refine Spec.of_fd fd_laws_szIntS rfl ?_
  simp -dsimp -implicitDefEqProofs +contextual (maxSteps := 3000000) (disch := omega) only [go_sem, ↓reduceIte, reduceCtorEq, Nat.reduceEqDiff, Nat.reduceAdd, Nat.reduceSub, Nat.reduceMul, Nat.reduceLeDiff, Nat.reduceBEq, Int.reduceToNat, Int.reduceNeg, Int.reduceEq, Int.reduceLT, Int.reduceLE, Int.reduceAdd, Int.reduceSub, Int.reduceMul, Int.reduceBEq, Int.reduceBNe, Int.reduceGT, Int.reduceGE, beq_self_eq_true, bne_self_eq_false, c_laws_szIntS, V.ints]
  simp (disch := omega) only [wrap_i64, IntWalk.u8_in, Int.tdiv_eq_ediv_of_nonneg, Int.tmod_eq_emod_of_nonneg]
  refine gcase.dec (fun hlt => Fin.pure0 rfl (h1 (by omega))) (fun hge => Fin.pure0 rfl (h2 (by omega)))

theorem s_szDecoder (d : Dec) (l : Int) (hl : 0 ≤ l ∧ l ≤ 1048576) (hx : d.held.length ≤ 9223372036854775807) {st : Store} {K : V → Store → Prop} (h1 : l < d.held.length → K (.x (.int .i64 (-1))) st) (h2 : (d.held.length : Int) ≤ l → K (.x (.int .i64 (l - d.held.length))) st) :
    Spec Proofs.Tryd.prog 14 [.agg d.cells, .x (.int .i64 l)] st K := by
  refine Spec.of_fd fd_laws_szDecoder rfl ?_
  simp -dsimp -implicitDefEqProofs +contextual (maxSteps := 3000000) (disch := omega) only [go_sem, ↓reduceIte, reduceCtorEq, Nat.reduceEqDiff, Nat.reduceAdd, Nat.reduceSub, Nat.reduceMul, Nat.reduceLeDiff, Nat.reduceBEq, Int.reduceToNat, Int.reduceNeg, Int.reduceEq, Int.reduceLT, Int.reduceLE, Int.reduceAdd, Int.reduceSub, Int.reduceMul, Int.reduceBEq, Int.reduceBNe, Int.reduceGT, Int.reduceGE, beq_self_eq_true, bne_self_eq_false, c_laws_szDecoder, Dec.cells]
  have hs : (bytes d.held).size = d.held.length := by simp [bytes, ByteArray.size]
  rw [hs]
  simp (disch := omega) only [wrap_i64, IntWalk.u8_in, Int.tdiv_eq_ediv_of_nonneg, Int.tmod_eq_emod_of_nonneg]
  refine gcase.dec (fun hlt => Fin.pure (Base.refl _) rfl (h1 (by omega))) (fun hge => Fin.pure (Base.refl _) rfl (h2 (by omega)))

theorem s_szBuf (b : Bf) (l : Int) (hl : 0 ≤ l ∧ l ≤ 1048576) (hx : b.runes.length ≤ 9223372036854775807) (hy : b.longs.length ≤ 9223372036854775807) {st : Store} {K : V → Store → Prop} (h1 : K (.x (.int .i64 (-1))) st)
    (h2 : (b.runes.length : Int) + b.longs.length ≤ l → K (.x (.int .i64 (l - b.runes.length - b.longs.length))) st) : Spec Proofs.Tryd.prog 15 [.agg b.cells, .x (.int .i64 l)] st K := by
  refine Spec.of_fd fd_laws_szBuf rfl ?_
  simp -dsimp -implicitDefEqProofs +contextual (maxSteps := 3000000) (disch := omega) only [go_sem, ↓reduceIte, reduceCtorEq, Nat.reduceEqDiff, Nat.reduceAdd, Nat.reduceSub, Nat.reduceMul, Nat.reduceLeDiff, Nat.reduceBEq, Int.reduceToNat, Int.reduceNeg, Int.reduceEq, Int.reduceLT, Int.reduceLE, Int.reduceAdd, Int.reduceSub, Int.reduceMul, Int.reduceBEq, Int.reduceBNe, Int.reduceGT, Int.reduceGE, beq_self_eq_true, bne_self_eq_false, c_laws_szBuf, Bf.cells, V.ints]
  refine s_szIntS _ _ hl hx (fun h => ?_) (fun h => ?_)
  · simp -dsimp -implicitDefEqProofs +contextual (maxSteps := 3000000) (disch := omega) only [go_sem, ↓reduceIte, reduceCtorEq, Nat.reduceEqDiff, Nat.reduceAdd, Nat.reduceSub, Nat.reduceMul, Nat.reduceLeDiff, Nat.reduceBEq, Int.reduceToNat, Int.reduceNeg, Int.reduceEq, Int.reduceLT, Int.reduceLE, Int.reduceAdd, Int.reduceSub, Int.reduceMul, Int.reduceBEq, Int.reduceBNe, Int.reduceGT, Int.reduceGE, beq_self_eq_true, bne_self_eq_false]
    exact Fin.pure (Base.refl _) rfl h1
  · simp -dsimp -implicitDefEqProofs +contextual (maxSteps := 3000000) (disch := omega) only [go_sem, ↓reduceIte, reduceCtorEq, Nat.reduceEqDiff, Nat.reduceAdd, Nat.reduceSub, Nat.reduceMul, Nat.reduceLeDiff, Nat.reduceBEq, Int.reduceToNat, Int.reduceNeg, Int.reduceEq, Int.reduceLT, Int.reduceLE, Int.reduceAdd, Int.reduceSub, Int.reduceMul, Int.reduceBEq, Int.reduceBNe, Int.reduceGT, Int.reduceGE, beq_self_eq_true, bne_self_eq_false]
    refine gcase.dec (fun hlt => by omega) (fun _ => s_szIntS _ _ (by omega) hy (fun h' => ?_) (fun h' => ?_))
    · simp -dsimp -implicitDefEqProofs +contextual (maxSteps := 3000000) (disch := omega) only [go_sem, ↓reduceIte, reduceCtorEq, Nat.reduceEqDiff, Nat.reduceAdd, Nat.reduceSub, Nat.reduceMul, Nat.reduceLeDiff, Nat.reduceBEq, Int.reduceToNat, Int.reduceNeg, Int.reduceEq, Int.reduceLT, Int.reduceLE, Int.reduceAdd, Int.reduceSub, Int.reduceMul, Int.reduceBEq, Int.reduceBNe, Int.reduceGT, Int.reduceGE, beq_self_eq_true, bne_self_eq_false]
      exact Fin.pure (Base.refl _) rfl h1
    · simp -dsimp -implicitDefEqProofs +contextual (maxSteps := 3000000) (disch := omega) only [go_sem, ↓reduceIte, reduceCtorEq, Nat.reduceEqDiff, Nat.reduceAdd, Nat.reduceSub, Nat.reduceMul, Nat.reduceLeDiff, Nat.reduceBEq, Int.reduceToNat, Int.reduceNeg, Int.reduceEq, Int.reduceLT, Int.reduceLE, Int.reduceAdd, Int.reduceSub, Int.reduceMul, Int.reduceBEq, Int.reduceBNe, Int.reduceGT, Int.reduceGE, beq_self_eq_true, bne_self_eq_false]
      refine gcase.dec (fun hlt => by omega) (fun _ => Fin.pure (Base.refl _) rfl (h2 (by omega)))

theorem s_szSession (s : Sess) (l : Int) (hl : 0 ≤ l ∧ l ≤ 1048576) (hh : s.dec.held.length ≤ 9223372036854775807) (hx : s.buf.runes.length ≤ 9223372036854775807) (hy : s.buf.longs.length ≤ 9223372036854775807) {st : Store} {K : V → Store → Prop} (h1 : K (.x (.int .i64 (-1))) st)
    (h2 : (s.dec.held.length : Int) + s.buf.runes.length + s.buf.longs.length ≤ l → K (.x (.int .i64 (l - s.dec.held.length - s.buf.runes.length - s.buf.longs.length))) st) : Spec Proofs.Tryd.prog 4 [.agg s.cells, .x (.int .i64 l)] st K := by
  refine Spec.of_fd fd_laws_szSession rfl ?_
  simp -dsimp -implicitDefEqProofs +contextual (maxSteps := 3000000) (disch := omega) only [go_sem, ↓reduceIte, reduceCtorEq, Nat.reduceEqDiff, Nat.reduceAdd, Nat.reduceSub, Nat.reduceMul, Nat.reduceLeDiff, Nat.reduceBEq, Int.reduceToNat, Int.reduceNeg, Int.reduceEq, Int.reduceLT, Int.reduceLE, Int.reduceAdd, Int.reduceSub, Int.reduceMul, Int.reduceBEq, Int.reduceBNe, Int.reduceGT, Int.reduceGE, beq_self_eq_true, bne_self_eq_false, c_laws_szSession, Sess.cells, Dec.cells, Bf.cells, V.ints]
  refine s_szDecoder s.dec _ hl hh (fun h => ?_) (fun h => ?_)
  · simp -dsimp -implicitDefEqProofs +contextual (maxSteps := 3000000) (disch := omega) only [go_sem, ↓reduceIte, reduceCtorEq, Nat.reduceEqDiff, Nat.reduceAdd, Nat.reduceSub, Nat.reduceMul, Nat.reduceLeDiff, Nat.reduceBEq, Int.reduceToNat, Int.reduceNeg, Int.reduceEq, Int.reduceLT, Int.reduceLE, Int.reduceAdd, Int.reduceSub, Int.reduceMul, Int.reduceBEq, Int.reduceBNe, Int.reduceGT, Int.reduceGE, beq_self_eq_true, bne_self_eq_false]
    exact Fin.pure (Base.refl _) rfl h1
  · simp -dsimp -implicitDefEqProofs +contextual (maxSteps := 3000000) (disch := omega) only [go_sem, ↓reduceIte, reduceCtorEq, Nat.reduceEqDiff, Nat.reduceAdd, Nat.reduceSub, Nat.reduceMul, Nat.reduceLeDiff, Nat.reduceBEq, Int.reduceToNat, Int.reduceNeg, Int.reduceEq, Int.reduceLT, Int.reduceLE, Int.reduceAdd, Int.reduceSub, Int.reduceMul, Int.reduceBEq, Int.reduceBNe, Int.reduceGT, Int.reduceGE, beq_self_eq_true, bne_self_eq_false]
    refine gcase.dec (fun hlt => by omega) (fun _ => s_szBuf s.buf _ (by omega) hx hy ?_ (fun h' => ?_))
    · simp -dsimp -implicitDefEqProofs +contextual (maxSteps := 3000000) (disch := omega) only [go_sem, ↓reduceIte, reduceCtorEq, Nat.reduceEqDiff, Nat.reduceAdd, Nat.reduceSub, Nat.reduceMul, Nat.reduceLeDiff, Nat.reduceBEq, Int.reduceToNat, Int.reduceNeg, Int.reduceEq, Int.reduceLT, Int.reduceLE, Int.reduceAdd, Int.reduceSub, Int.reduceMul, Int.reduceBEq, Int.reduceBNe, Int.reduceGT, Int.reduceGE, beq_self_eq_true, bne_self_eq_false]
      exact Fin.pure (Base.refl _) rfl h1
    · simp -dsimp -implicitDefEqProofs +contextual (maxSteps := 3000000) (disch := omega) only [go_sem, ↓reduceIte, reduceCtorEq, Nat.reduceEqDiff, Nat.reduceAdd, Nat.reduceSub, Nat.reduceMul, Nat.reduceLeDiff, Nat.reduceBEq, Int.reduceToNat, Int.reduceNeg, Int.reduceEq, Int.reduceLT, Int.reduceLE, Int.reduceAdd, Int.reduceSub, Int.reduceMul, Int.reduceBEq, Int.reduceBNe, Int.reduceGT, Int.reduceGE, beq_self_eq_true, bne_self_eq_false]
      refine gcase.dec (fun hlt => by omega) (fun _ => Fin.pure (Base.refl _) rfl (h2 (by omega)))

end Go.VS
