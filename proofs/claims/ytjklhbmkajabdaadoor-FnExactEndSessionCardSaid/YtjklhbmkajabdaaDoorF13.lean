/- Contracts: copies and joins of lists. -/
import Derived.Test.YtjklhbmkajabdaaDoorF12
import Derived.Test.YtjklhbmkajabdaaDoorVs21
set_option linter.all false
namespace Go.VS
open Go Go.RowKit
set_option maxRecDepth 10000

theorem ints_cells (xs : List Int) : ((List.range xs.length).flatMap fun i => [intsF xs i 0]) = icells xs := by
  rw [← List.map_eq_flatMap]
  apply List.ext_getElem?
  intro j
  simp only [icells, List.getElem?_map]
  by_cases hj : j < xs.length
  · rw [List.getElem?_range hj]
    simp only [Option.map_some, intsF_lt hj]
    simp [hj]
  · rw [List.getElem?_eq_none (by simpa using hj), List.getElem?_eq_none (by simpa using hj)]; rfl

theorem icells_all (xs : List Int) {n : Nat} (h : n = xs.length) : (icells xs).take n = icells xs := by
  subst h; exact List.take_of_length_le (by simp [icells])

attribute [go_sem] icells_pure

/-- A copy that the caller may write to: where it is empty it may be nil. -/
theorem s_CloneO (xs : List Int) (hx : xs.length ≤ 4294967296) {st : Store} {K : V → Store → Prop} (h : ∀ e, e ≠ 0 → (e = 1 → xs = []) → K (.ref st.length 0 0 xs.length) (st ++ [.of e 0 xs])) :
    Spec Proofs.Tryd.prog 56 [V.ints xs] st K := by
  refine Spec.of_fd fd_slices_Clone_int_int rfl ?_
  simp -dsimp -implicitDefEqProofs +contextual (maxSteps := 3000000) (disch := omega) only [go_sem, ↓reduceIte, reduceCtorEq, Nat.reduceEqDiff, Nat.reduceAdd, Nat.reduceSub, Nat.reduceMul, Nat.reduceLeDiff, Nat.reduceBEq, Int.reduceToNat, Int.reduceNeg, Int.reduceEq, Int.reduceLT, Int.reduceLE, Int.reduceAdd, Int.reduceSub, Int.reduceMul, Int.reduceBEq, Int.reduceBNe, Int.reduceGT, Int.reduceGE, beq_self_eq_true, bne_self_eq_false, c_slices_Clone_int_int, V.ints, ints_cells]
  intro b hb
  refine gcase.mk (fun e => ?_) (fun e => ?_)
  · have : xs = [] := List.length_eq_zero_iff.1 (hb e)
    subst this
    have := Fin.own_nil (st0 := st) (st1 := st) (l := []) (Q := K) (Base.refl _) 1 (h 1 (by decide) (fun _ => rfl))
    simpa using this
  · refine ⟨by omega, by omega, ?_⟩
    exact Fin.own (l := [⟨2, 1, 1, icells xs⟩]) (Base.refl _) 0 ⟨2, 1, 1, icells xs⟩ rfl (by simp) rfl (icells_pure xs) (h 2 (by decide) (by simp))

theorem s_Clone (xs : List Int) (hx : xs.length ≤ 4294967296) {st : Store} {K : V → Store → Prop} (h : K (V.ints xs) st) : Spec Proofs.Tryd.prog 56 [V.ints xs] st K :=
  Spec.imm (s_CloneO xs hx fun e he _ => ⟨.of e 0 xs, xs.length, he, icells_pure xs, rfl, rfl, by rw [Blk.of, frzC_ints]; exact h⟩)

theorem s_l1Own (xs : List Int) (hx : xs.length ≤ 4294967296) {st : Store} {K : V → Store → Prop} (h : K (.ref st.length 0 0 xs.length) (st ++ [.of 2 0 xs])) : Spec Proofs.Tryd.prog 62 [V.ints xs] st K := by
  refine Spec.of_fd fd_spec_l1Own rfl ?_
  simp -dsimp -implicitDefEqProofs +contextual (maxSteps := 3000000) (disch := omega) only [go_sem, ↓reduceIte, reduceCtorEq, Nat.reduceEqDiff, Nat.reduceAdd, Nat.reduceSub, Nat.reduceMul, Nat.reduceLeDiff, Nat.reduceBEq, Int.reduceToNat, Int.reduceNeg, Int.reduceEq, Int.reduceLT, Int.reduceLE, Int.reduceAdd, Int.reduceSub, Int.reduceMul, Int.reduceBEq, Int.reduceBNe, Int.reduceGT, Int.reduceGE, beq_self_eq_true, bne_self_eq_false, c_spec_l1Own, V.ints, ints_cells]
  refine ⟨by omega, by omega, ?_⟩
  exact Fin.own (l := [⟨2, 1, 1, icells xs⟩]) (Base.refl _) 0 ⟨2, 1, 1, icells xs⟩ rfl (by simp) rfl (icells_pure xs) h

theorem s_l1OwnI (xs : List Int) (hx : xs.length ≤ 4294967296) {st : Store} {K : V → Store → Prop} (h : K (V.ints xs) st) : Spec Proofs.Tryd.prog 62 [V.ints xs] st K :=
  Spec.imm (s_l1Own xs hx ⟨.of 2 0 xs, xs.length, by simp [Blk.of], icells_pure xs, rfl, rfl, by rw [Blk.of, frzC_ints]; exact h⟩)

theorem s_l1Most (a b : Int) {st : Store} {K : V → Store → Prop} (h : K (.x (.int .i64 (if a > b then a else b))) st) : Spec Proofs.Tryd.prog 64 [.x (.int .i64 a), .x (.int .i64 b)] st K := by
  refine Spec.of_fd fd_spec_l1Most rfl ?_
  simp -dsimp -implicitDefEqProofs +contextual (maxSteps := 3000000) (disch := omega) only [go_sem, ↓reduceIte, reduceCtorEq, Nat.reduceEqDiff, Nat.reduceAdd, Nat.reduceSub, Nat.reduceMul, Nat.reduceLeDiff, Nat.reduceBEq, Int.reduceToNat, Int.reduceNeg, Int.reduceEq, Int.reduceLT, Int.reduceLE, Int.reduceAdd, Int.reduceSub, Int.reduceMul, Int.reduceBEq, Int.reduceBNe, Int.reduceGT, Int.reduceGE, beq_self_eq_true, bne_self_eq_false, c_spec_l1Most]
  refine gcase.dec (fun h1 => Fin.pure0 rfl ?_) (fun h1 => Fin.pure0 rfl ?_)
  · rwa [if_pos h1] at h
  · rwa [if_neg h1] at h

def isum : List Int → Int
  | [] => 0
  | x :: r => x + isum r
theorem isum_append : ∀ (xs ys : List Int), isum (xs ++ ys) = isum xs + isum ys
  | [], ys => by simp [isum]
  | x :: r, ys => by simp only [List.cons_append, isum, isum_append r ys]; omega
theorem isum_snoc (xs : List Int) (y : Int) : isum (xs ++ [y]) = isum xs + y := by rw [isum_append]; simp [isum]
theorem isum_bd : ∀ {xs : List Int}, (∀ x ∈ xs, 1 ≤ x ∧ x ≤ 1000) → (xs.length : Int) ≤ isum xs ∧ isum xs ≤ 1000 * (xs.length : Int)
  | [], _ => by simp [isum]
  | x :: r, h => by
    have h1 := isum_bd (xs := r) fun y hy => h y (by simp [hy])
    have h2 := h x (by simp)
    simp only [isum, List.length_cons]
    omega

/-- The lists of a list. -/
def listsF (ls : List (List Int)) : Nat → Nat → V := cut ls.length 1 fun i _ => V.ints (ls.getD i [])
abbrev V.lists (ls : List (List Int)) : V := .sl ls.length 1 (listsF ls)
theorem listsF_lt {ls : List (List Int)} {i : Nat} (h : i < ls.length) : listsF ls i 0 = V.ints (ls.getD i []) := by
  unfold listsF cut; rw [if_pos ⟨h, by omega⟩]

theorem s_Grow (n : Int) (hn : 0 ≤ n ∧ n ≤ 4294967296) {st : Store} {K : V → Store → Prop} (h0 : n = 0 → K (.x (.slice none 0 0)) st) (h1 : 0 < n → K (.ref st.length 0 0 0) (st ++ [⟨2, 0, 1, List.replicate n.toNat (.x (.int .i64 0))⟩])) :
    Spec Proofs.Tryd.prog 69 [.x (.slice none 0 0), .x (.int .i64 n)] st K := by
  refine Spec.of_fd fd_slices_Grow_int_int rfl ?_
  have e0 : IntKind.i64.wrap 0 = 0 := rfl
  have e1 : IntKind.i64.wrap n = n := wrap_i64 (by omega)
  have hn0 : decide (n < 0) = false := by simp; omega
  simp -dsimp -implicitDefEqProofs +contextual (maxSteps := 3000000) (disch := omega) only [go_sem, ↓reduceIte, reduceCtorEq, Nat.reduceEqDiff, Nat.reduceAdd, Nat.reduceSub, Nat.reduceMul, Nat.reduceLeDiff, Nat.reduceBEq, Int.reduceToNat, Int.reduceNeg, Int.reduceEq, Int.reduceLT, Int.reduceLE, Int.reduceAdd, Int.reduceSub, Int.reduceMul, Int.reduceBEq, Int.reduceBNe, Int.reduceGT, Int.reduceGE, beq_self_eq_true, bne_self_eq_false, c_slices_Grow_int_int, e0, e1, hn0, Int.sub_zero]
  have e2 : (List.replicate n.toNat [V.x (Value.int IntKind.i64 0)]).flatten = List.replicate n.toNat (.x (.int .i64 0)) := by
    simp
  rw [e2]
  refine gcase.dec (fun hp => ⟨by omega, hp, by omega, by omega, Fin.refl (h1 hp)⟩) (fun hp => Fin.pure0 rfl (h0 (by omega)))

/-- What the first so many lists hold. -/
def total (ls : List (List Int)) : Nat := ls.flatten.length

theorem flat_at {ls : List (List Int)} {i : Nat} (h : i < ls.length) : (ls.take (i + 1)).flatten = (ls.take i).flatten ++ ls.getD i [] := by
  rw [List.take_add_one, List.flatten_append]; simp [h]

theorem flat_le (ls : List (List Int)) (i : Nat) : (ls.take i).flatten.length ≤ ls.flatten.length := by
  conv => rhs; rw [← List.take_append_drop i ls, List.flatten_append, List.length_append]
  omega

theorem s_ConcatO (ls : List (List Int)) (hl : ls.length ≤ 4294967296) (hx : ls.flatten.length ≤ 4294967296) {st : Store} {K : V → Store → Prop} (h : ∀ e, e ≠ 0 → (e = 1 → ls.flatten = []) → K (.ref st.length 0 0 ls.flatten.length) (st ++ [.of e 0 ls.flatten])) :
    Spec Proofs.Tryd.prog 57 [V.lists ls] st K := by
  refine Spec.of_fd fd_slices_Concat_int_int rfl ?_
  simp -dsimp -implicitDefEqProofs +contextual (maxSteps := 3000000) (disch := omega) only [go_sem, ↓reduceIte, reduceCtorEq, Nat.reduceEqDiff, Nat.reduceAdd, Nat.reduceSub, Nat.reduceMul, Nat.reduceLeDiff, Nat.reduceBEq, Int.reduceToNat, Int.reduceNeg, Int.reduceEq, Int.reduceLT, Int.reduceLE, Int.reduceAdd, Int.reduceSub, Int.reduceMul, Int.reduceBEq, Int.reduceBNe, Int.reduceGT, Int.reduceGE, beq_self_eq_true, bne_self_eq_false, c_slices_Concat_int_int, V.lists]
  refine LoopC.intro (fun n ρ st' => ∃ i : Nat, n = ls.length - i ∧ i ≤ ls.length ∧ st' = st ∧ lk ρ 0 = .sl ls.length 1 (listsF ls) ∧ lk ρ 9 = .sl ls.length 1 (listsF ls) ∧ lk ρ 10 = .x (.int .i64 ls.length) ∧ lk ρ 11 = .x (.int .i64 i) ∧
    lk ρ 3 = .x (.int .i64 (ls.take i).flatten.length)) ls.length (Weak.refl ⟨0, by simp [lk]⟩) ?_
  rintro n ρ st' ⟨i, rfl, hi', rfl, h0, h9, h10, h11, h3⟩
  have hfl := flat_le ls i
  simp -dsimp -implicitDefEqProofs +contextual (maxSteps := 3000000) (disch := omega) only [go_sem, ↓reduceIte, reduceCtorEq, Nat.reduceEqDiff, Nat.reduceAdd, Nat.reduceSub, Nat.reduceMul, Nat.reduceLeDiff, Nat.reduceBEq, Int.reduceToNat, Int.reduceNeg, Int.reduceEq, Int.reduceLT, Int.reduceLE, Int.reduceAdd, Int.reduceSub, Int.reduceMul, Int.reduceBEq, Int.reduceBNe, Int.reduceGT, Int.reduceGE, beq_self_eq_true, bne_self_eq_false, h0, h9, h10, h11, h3]
  refine gcase.dec (fun hlt => ?_) (fun hge => ?_)
  · have hlt' : i < ls.length := by omega
    have hfl' := flat_le ls (i + 1)
    rw [flat_at hlt', List.length_append] at hfl'
    rw [listsF_lt hlt']
    simp -dsimp -implicitDefEqProofs +contextual (maxSteps := 3000000) (disch := omega) only [go_sem, ↓reduceIte, reduceCtorEq, Nat.reduceEqDiff, Nat.reduceAdd, Nat.reduceSub, Nat.reduceMul, Nat.reduceLeDiff, Nat.reduceBEq, Int.reduceToNat, Int.reduceNeg, Int.reduceEq, Int.reduceLT, Int.reduceLE, Int.reduceAdd, Int.reduceSub, Int.reduceMul, Int.reduceBEq, Int.reduceBNe, Int.reduceGT, Int.reduceGE, beq_self_eq_true, bne_self_eq_false, V.ints, h3, h11]
    simp (disch := omega) only [wrap_i64, IntWalk.u8_in, Int.tdiv_eq_ediv_of_nonneg, Int.tmod_eq_emod_of_nonneg]
    refine ⟨by omega, hlt, by omega, ?_⟩
    refine gcase.dec (fun hneg => by omega) (fun _ => ?_)
    refine loopE.go (ls.length - (i + 1)) (by omega) (Weak.refl ⟨i + 1, rfl, by omega, rfl, ?_⟩)
    simp -dsimp -implicitDefEqProofs +contextual (maxSteps := 3000000) (disch := omega) only [go_sem, ↓reduceIte, reduceCtorEq, Nat.reduceEqDiff, Nat.reduceAdd, Nat.reduceSub, Nat.reduceMul, Nat.reduceLeDiff, Nat.reduceBEq, Int.reduceToNat, Int.reduceNeg, Int.reduceEq, Int.reduceLT, Int.reduceLE, Int.reduceAdd, Int.reduceSub, Int.reduceMul, Int.reduceBEq, Int.reduceBNe, Int.reduceGT, Int.reduceGE, beq_self_eq_true, bne_self_eq_false, h0, h9, h10]
    rw [flat_at hlt', List.length_append]
    simp
  · have : i = ls.length := by omega
    subst this
    rw [List.take_length]
    refine s_Grow _ (by omega) (fun hz => ?_) (fun hp => ?_)
    · have hz' : ls.flatten = [] := List.length_eq_zero_iff.1 (by omega)
      simp -dsimp -implicitDefEqProofs +contextual (maxSteps := 3000000) (disch := omega) only [go_sem, ↓reduceIte, reduceCtorEq, Nat.reduceEqDiff, Nat.reduceAdd, Nat.reduceSub, Nat.reduceMul, Nat.reduceLeDiff, Nat.reduceBEq, Int.reduceToNat, Int.reduceNeg, Int.reduceEq, Int.reduceLT, Int.reduceLE, Int.reduceAdd, Int.reduceSub, Int.reduceMul, Int.reduceBEq, Int.reduceBNe, Int.reduceGT, Int.reduceGE, beq_self_eq_true, bne_self_eq_false, h0]
      refine LoopC.intro (fun n ρ st'' => ∃ i : Nat, n = ls.length - i ∧ i ≤ ls.length ∧ st'' = st' ∧ lk ρ 25 = .sl ls.length 1 (listsF ls) ∧ lk ρ 26 = .x (.int .i64 ls.length) ∧ lk ρ 27 = .x (.int .i64 i) ∧ lk ρ 6 = .x (.slice none 0 0)) ls.length (Weak.refl ⟨0, by simp [lk]⟩) ?_
      rintro n ρ st'' ⟨i, rfl, hi', rfl, h25, h26, h27, h6⟩
      simp -dsimp -implicitDefEqProofs +contextual (maxSteps := 3000000) (disch := omega) only [go_sem, ↓reduceIte, reduceCtorEq, Nat.reduceEqDiff, Nat.reduceAdd, Nat.reduceSub, Nat.reduceMul, Nat.reduceLeDiff, Nat.reduceBEq, Int.reduceToNat, Int.reduceNeg, Int.reduceEq, Int.reduceLT, Int.reduceLE, Int.reduceAdd, Int.reduceSub, Int.reduceMul, Int.reduceBEq, Int.reduceBNe, Int.reduceGT, Int.reduceGE, beq_self_eq_true, bne_self_eq_false, h25, h26, h27, h6]
      refine gcase.dec (fun hlt => ?_) (fun hge => ?_)
      · have hlt' : i < ls.length := by omega
        rw [listsF_lt hlt']
        have he : ls.getD i [] = [] := by
          have h1 := flat_at hlt'
          have h2 := flat_le ls (i + 1)
          rw [h1, List.length_append] at h2
          exact List.length_eq_zero_iff.1 (by omega)
        rw [he]
        simp -dsimp -implicitDefEqProofs +contextual (maxSteps := 3000000) (disch := omega) only [go_sem, ↓reduceIte, reduceCtorEq, Nat.reduceEqDiff, Nat.reduceAdd, Nat.reduceSub, Nat.reduceMul, Nat.reduceLeDiff, Nat.reduceBEq, Int.reduceToNat, Int.reduceNeg, Int.reduceEq, Int.reduceLT, Int.reduceLE, Int.reduceAdd, Int.reduceSub, Int.reduceMul, Int.reduceBEq, Int.reduceBNe, Int.reduceGT, Int.reduceGE, beq_self_eq_true, bne_self_eq_false, V.ints, h6, h27]
        simp (disch := omega) only [wrap_i64, IntWalk.u8_in, Int.tdiv_eq_ediv_of_nonneg, Int.tmod_eq_emod_of_nonneg]
        refine ⟨by omega, hlt, by omega, by omega, fun h => absurd h (by omega), ?_⟩
        refine loopE.go (ls.length - (i + 1)) (by omega) (Weak.refl ⟨i + 1, rfl, by omega, rfl, ?_⟩)
        simp -dsimp -implicitDefEqProofs +contextual (maxSteps := 3000000) (disch := omega) only [go_sem, ↓reduceIte, reduceCtorEq, Nat.reduceEqDiff, Nat.reduceAdd, Nat.reduceSub, Nat.reduceMul, Nat.reduceLeDiff, Nat.reduceBEq, Int.reduceToNat, Int.reduceNeg, Int.reduceEq, Int.reduceLT, Int.reduceLE, Int.reduceAdd, Int.reduceSub, Int.reduceMul, Int.reduceBEq, Int.reduceBNe, Int.reduceGT, Int.reduceGE, beq_self_eq_true, bne_self_eq_false, h25, h26]
        simp
      · have := Fin.own_nil (st0 := st'') (st1 := st'') (l := []) (Q := K) (Base.refl _) 1 (by
          have := h 1 (by decide) (fun _ => hz')
          rw [hz'] at this
          exact this)
        simpa using this
    · simp -dsimp -implicitDefEqProofs +contextual (maxSteps := 3000000) (disch := omega) only [go_sem, ↓reduceIte, reduceCtorEq, Nat.reduceEqDiff, Nat.reduceAdd, Nat.reduceSub, Nat.reduceMul, Nat.reduceLeDiff, Nat.reduceBEq, Int.reduceToNat, Int.reduceNeg, Int.reduceEq, Int.reduceLT, Int.reduceLE, Int.reduceAdd, Int.reduceSub, Int.reduceMul, Int.reduceBEq, Int.reduceBNe, Int.reduceGT, Int.reduceGE, beq_self_eq_true, bne_self_eq_false, h0]
      refine LoopC.intro (fun n ρ st'' => ∃ (i ver : Nat) (cs : List V), n = ls.length - i ∧ i ≤ ls.length ∧ st'' = st' ++ [⟨2, ver, 1, cs⟩] ∧ lk ρ 25 = .sl ls.length 1 (listsF ls) ∧ lk ρ 26 = .x (.int .i64 ls.length) ∧ lk ρ 27 = .x (.int .i64 i) ∧ lk ρ 6 = .ref st'.length ver 0 (ls.take i).flatten.length ∧
        cs.take (ls.take i).flatten.length = icells (ls.take i).flatten ∧ (0 < i → cs = icells (ls.take i).flatten)) ls.length (Weak.refl ⟨0, 0, _, rfl, by omega, rfl, ?_⟩) ?_
      · simp -dsimp -implicitDefEqProofs +contextual (maxSteps := 3000000) (disch := omega) only [go_sem, ↓reduceIte, reduceCtorEq, Nat.reduceEqDiff, Nat.reduceAdd, Nat.reduceSub, Nat.reduceMul, Nat.reduceLeDiff, Nat.reduceBEq, Int.reduceToNat, Int.reduceNeg, Int.reduceEq, Int.reduceLT, Int.reduceLE, Int.reduceAdd, Int.reduceSub, Int.reduceMul, Int.reduceBEq, Int.reduceBNe, Int.reduceGT, Int.reduceGE, beq_self_eq_true, bne_self_eq_false]
        simp [icells]
      rintro n ρ st'' ⟨i, ver, cs, rfl, hi', rfl, h25, h26, h27, h6, hcs, hcs0⟩
      simp -dsimp -implicitDefEqProofs +contextual (maxSteps := 3000000) (disch := omega) only [go_sem, ↓reduceIte, reduceCtorEq, Nat.reduceEqDiff, Nat.reduceAdd, Nat.reduceSub, Nat.reduceMul, Nat.reduceLeDiff, Nat.reduceBEq, Int.reduceToNat, Int.reduceNeg, Int.reduceEq, Int.reduceLT, Int.reduceLE, Int.reduceAdd, Int.reduceSub, Int.reduceMul, Int.reduceBEq, Int.reduceBNe, Int.reduceGT, Int.reduceGE, beq_self_eq_true, bne_self_eq_false, h25, h26, h27, h6]
      refine gcase.dec (fun hlt => ?_) (fun hge => ?_)
      · have hlt' : i < ls.length := by omega
        have hfl' := flat_le ls (i + 1)
        have hat := flat_at hlt'
        rw [hat, List.length_append] at hfl'
        rw [listsF_lt hlt']
        simp -dsimp -implicitDefEqProofs +contextual (maxSteps := 3000000) (disch := omega) only [go_sem, ↓reduceIte, reduceCtorEq, Nat.reduceEqDiff, Nat.reduceAdd, Nat.reduceSub, Nat.reduceMul, Nat.reduceLeDiff, Nat.reduceBEq, Int.reduceToNat, Int.reduceNeg, Int.reduceEq, Int.reduceLT, Int.reduceLE, Int.reduceAdd, Int.reduceSub, Int.reduceMul, Int.reduceBEq, Int.reduceBNe, Int.reduceGT, Int.reduceGE, beq_self_eq_true, bne_self_eq_false, V.ints, h6, h27, ints_cells]
        simp (disch := omega) only [wrap_i64, IntWalk.u8_in, Int.tdiv_eq_ediv_of_nonneg, Int.tmod_eq_emod_of_nonneg]
        rw [hcs]
        have hap : icells (ls.take i).flatten ++ icells (ls.getD i []) = icells (ls.take (i + 1)).flatten := by rw [hat]; simp [icells]
        rw [hap]
        refine ⟨by omega, hlt, by omega, by omega, by omega, ?_⟩
        refine loopE.go (ls.length - (i + 1)) (by omega) (Weak.refl ⟨i + 1, ver + 1, _, rfl, by omega, rfl, ?_⟩)
        simp -dsimp -implicitDefEqProofs +contextual (maxSteps := 3000000) (disch := omega) only [go_sem, ↓reduceIte, reduceCtorEq, Nat.reduceEqDiff, Nat.reduceAdd, Nat.reduceSub, Nat.reduceMul, Nat.reduceLeDiff, Nat.reduceBEq, Int.reduceToNat, Int.reduceNeg, Int.reduceEq, Int.reduceLT, Int.reduceLE, Int.reduceAdd, Int.reduceSub, Int.reduceMul, Int.reduceBEq, Int.reduceBNe, Int.reduceGT, Int.reduceGE, beq_self_eq_true, bne_self_eq_false, h25, h26]
        rw [hat, List.length_append]
        exact ⟨by simp, rfl, icells_all _ (by rw [List.length_append])⟩
      · have hi : i = ls.length := by omega
        subst hi
        rw [List.take_length] at hcs hcs0
        have hpos : 0 < ls.length := by
          rcases Nat.eq_zero_or_pos ls.length with h0 | h0
          · have : ls = [] := List.length_eq_zero_iff.1 h0
            subst this; simp at hp
          · exact h0
        have hc := hcs0 hpos
        subst hc
        rw [List.take_length]
        exact Fin.own (l := [⟨2, ver, 1, icells ls.flatten⟩]) (Base.refl _) 0 ⟨2, ver, 1, icells ls.flatten⟩ rfl (by simp) rfl (icells_pure _) (h 2 (by decide) (by simp))

theorem s_Concat (ls : List (List Int)) (hl : ls.length ≤ 4294967296) (hx : ls.flatten.length ≤ 4294967296) {st : Store} {K : V → Store → Prop} (h : K (V.ints ls.flatten) st) : Spec Proofs.Tryd.prog 57 [V.lists ls] st K :=
  Spec.imm (s_ConcatO ls hl hx fun e he _ => ⟨.of e 0 ls.flatten, _, he, icells_pure _, rfl, rfl, by rw [Blk.of, frzC_ints]; exact h⟩)

end Go.VS
