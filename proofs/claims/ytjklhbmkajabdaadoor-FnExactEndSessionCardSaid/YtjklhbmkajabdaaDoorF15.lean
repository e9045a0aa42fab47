/- Contracts: what ends a decoder. -/
import Derived.Test.YtjklhbmkajabdaaDoorF14
set_option linter.all false
namespace Go.VS
open Go Go.RowKit
set_option maxRecDepth 10000

/-- How many bytes each takes of what is held. -/
def chunksF (long : Nat) : Nat → Nat → List Int
  | 0, _ => []
  | f + 1, n => if n = 0 then [] else ((min long n : Nat) : Int) :: chunksF long f (n - min long n)
def chunks (long n : Nat) : List Int := chunksF long n n

theorem chunksF_fuel {long : Nat} (hl : 0 < long) : ∀ (f n : Nat), n ≤ f → chunksF long (f + 1) n = chunksF long f n
  | 0, n, h => by obtain rfl : n = 0 := by omega
                  simp [chunksF]
  | f + 1, n, h => by
    rw [chunksF]
    conv => rhs; rw [chunksF]
    by_cases hn : n = 0
    · rw [if_pos hn, if_pos hn]
    · rw [if_neg hn, if_neg hn, chunksF_fuel hl f _ (by omega)]

theorem chunksF_any {long : Nat} (hl : 0 < long) (n : Nat) : ∀ f, n ≤ f → chunksF long f n = chunks long n
  | 0, h => by obtain rfl : n = 0 := by omega
               rfl
  | f + 1, h => by
    by_cases hf : n ≤ f
    · rw [chunksF_fuel hl f n hf, chunksF_any hl n f hf]
    · obtain rfl : n = f + 1 := by omega
      rfl

theorem chunks_zero (long : Nat) : chunks long 0 = [] := rfl
theorem chunks_step {long n : Nat} (hl : 0 < long) (hn : 0 < n) : chunks long n = ((min long n : Nat) : Int) :: chunks long (n - min long n) := by
  obtain ⟨k, rfl⟩ : ∃ k, n = k + 1 := ⟨n - 1, by omega⟩
  show chunksF long (k + 1) (k + 1) = _
  rw [chunksF, if_neg (by omega), chunksF_any hl _ k (by omega)]
theorem chunks_len {long : Nat} (hl : 0 < long) : ∀ (n m : Nat), m ≤ n → (chunks long m).length ≤ m
  | 0, m, h => by obtain rfl : m = 0 := by omega
                  simp [chunks_zero]
  | n + 1, m, h => by
    by_cases hm : m = 0
    · subst hm; simp [chunks_zero]
    · rw [chunks_step hl (by omega), List.length_cons]
      have := chunks_len hl n (m - min long m) (by omega)
      omega
theorem chunks_bd {long : Nat} (hl : 0 < long) : ∀ (n m : Nat), m ≤ n → ∀ x ∈ chunks long m, 1 ≤ x ∧ x ≤ long
  | 0, m, h => by obtain rfl : m = 0 := by omega
                  simp [chunks_zero]
  | n + 1, m, h => by
    by_cases hm : m = 0
    · subst hm; simp [chunks_zero]
    · rw [chunks_step hl (by omega)]
      intro x hx
      rcases List.mem_cons.1 hx with rfl | hx
      · omega
      · exact chunks_bd hl n (m - min long m) (by omega) x hx

/-- What ends a decoder: how long the runes are. -/
def Dec.rest (d : Dec) : List Int := chunks (if unitsC d.en then 2 else 1) d.held.length
def Dec.shut (d : Dec) : Dec := { d with held := [] }
def bads (n : Nat) : List Int := List.replicate n 65533

@[go_sem] theorem pre_get (pre l : List V) (k : Nat) : (pre ++ l)[pre.length + k]? = l[k]? := by
  rw [List.getElem?_append_right (by omega), Nat.add_sub_cancel_left]
@[go_sem] theorem pre_get0 (pre l : List V) : (pre ++ l)[pre.length]? = l[0]? := pre_get pre l 0
@[go_sem] theorem pre_set (pre l : List V) (k : Nat) (x : V) : (pre ++ l).set (pre.length + k) x = pre ++ l.set k x := by
  rw [List.set_append_right _ _ (by omega), Nat.add_sub_cancel_left]
@[go_sem] theorem pre_set0 (pre l : List V) (x : V) : (pre ++ l).set pre.length x = pre ++ l.set 0 x := pre_set pre l 0 x
@[go_sem] theorem pre_drop (pre l : List V) : (pre ++ l).drop pre.length = l := List.drop_left

@[go_sem] theorem getH_set_app {st l : Store} {id : Nat} {b : Blk} (h : id < st.length) (ver : Nat) (K : Blk → Prop) (u : Tag K) : getH (st.set id b ++ l) id ver K u = (b.ver = ver ∧ b.kind ≠ 0 ∧ K b) := by
  rw [getH_app (by simpa using h), getH_set h]
@[go_sem] theorem set_set_app {st l : Store} {id : Nat} {b c : Blk} (h : id < st.length) : (st.set id b ++ l).set id c = st.set id c ++ l := by
  rw [set_app (by simpa using h), List.set_set]

@[go_sem] theorem blt_lt {a b : Nat} (h : a < b) : Nat.blt a b = true := by simpa [Nat.blt_eq] using h
@[go_sem] theorem under_append (m : Nat) : ∀ a b : List V, V.under.all m (a ++ b) = (V.under.all m a && V.under.all m b)
  | [], b => by simp [V.under.all]
  | x :: r, b => by simp only [List.cons_append, V.under.all, under_append m r b, Bool.and_assoc]
theorem Sees.ints {m : Nat} {st : Store} {id e ver n : Nat} {xs : List Int} (hmi : m ≤ id) (hk : st[id]? = some ⟨e, ver, 1, icells xs⟩) (he : e ≠ 0) (hn : n = xs.length) : Sees m st (.ref id ver 0 n) (V.ints xs) := by
  subst hn
  refine Sees.ref hmi hk rfl he rfl fun i j hi hj => ⟨.x (.int .i64 (xs.getD i 0)), ?_, ?_⟩
  · obtain rfl : j = 0 := by omega
    simpa using icells_get hi
  · obtain rfl : j = 0 := by omega
    rw [intsF_lt hi]; exact Sees.pure rfl
theorem own_get (st l : Store) (k : Nat) : (st ++ l)[st.length + k]? = l[k]? := by
  rw [List.getElem?_append_right (by omega), Nat.add_sub_cancel_left]
theorem bads_len (n : Nat) : (bads n).length = n := by simp [bads]
theorem icells_frzA (xs : List Int) (id : Nat) (k : Blk) : V.frz.all id k (icells xs) = icells xs := by rw [V.frz_all, icells_frz]

/-- Two lists of the call's own are handed back as immutable ones. -/
theorem Fin.two {st0 st1 : Store} {Q : V → Store → Prop} {v1 v2 e1 e2 : Nat} {xs ys : List Int} {l : Store} (hb : Base st0 st1) (he1 : e1 ≠ 0) (he2 : e2 ≠ 0) {n1 n2 : Nat} (hn1 : n1 = xs.length) (hn2 : n2 = ys.length) (h : Q (.tup [V.ints xs, V.ints ys]) st1) :
    Fin st0 Q (.tup [.ref st0.length v1 0 n1, .ref (st0.length + 1) v2 0 n2]) (st1 ++ (⟨e1, v1, 1, icells xs⟩ :: ⟨e2, v2, 1, icells ys⟩ :: l)) := by
  have g : ∀ k : Nat, (st1 ++ (⟨e1, v1, 1, icells xs⟩ :: ⟨e2, v2, 1, icells ys⟩ :: l))[st0.length + k]? = (⟨e1, v1, 1, icells xs⟩ :: ⟨e2, v2, 1, icells ys⟩ :: l : Store)[k]? := fun k => by rw [← hb.1]; exact own_get _ _ k
  exact Fin.see hb (Sees.tup (.cons (Sees.ints (Nat.le_refl _) (g 0) he1 hn1) (.cons (Sees.ints (by omega) (g 1) he2 hn2) .nil))) h

theorem s_flush (d : Dec) (id ver : Nat) (pre post : List V) {st : Store} (hb : st[id]? = some ⟨2, ver, 1, pre ++ (d.cells ++ post)⟩) (hh : d.held.length ≤ 4194304) {K : V → Store → Prop}
    (h : K (.tup [V.ints (bads d.rest.length), V.ints d.rest]) (st.set id ⟨2, ver, 1, pre ++ (d.shut.cells ++ post)⟩)) (hu : V.under.all st.length (pre ++ (d.shut.cells ++ post)) = true) :
    Spec Proofs.Tryd.prog 37 [.ptr id ver pre.length] st K := by
  have hid := getElem?_lt hb
  refine Spec.of_fd fd_impl_Decoder_flush rfl ?_
  simp -dsimp -implicitDefEqProofs +contextual (maxSteps := 3000000) (disch := omega) only [go_sem, ↓reduceIte, reduceCtorEq, Nat.reduceEqDiff, Nat.reduceAdd, Nat.reduceSub, Nat.reduceMul, Nat.reduceLeDiff, Nat.reduceBEq, Int.reduceToNat, Int.reduceNeg, Int.reduceEq, Int.reduceLT, Int.reduceLE, Int.reduceAdd, Int.reduceSub, Int.reduceMul, Int.reduceBEq, Int.reduceBNe, Int.reduceGT, Int.reduceGE, beq_self_eq_true, bne_self_eq_false, c_impl_Decoder_flush, getH_at hb, Dec.cells]
  refine s_isUnits _ ?_
  simp -dsimp -implicitDefEqProofs +contextual (maxSteps := 3000000) (disch := omega) only [go_sem, ↓reduceIte, reduceCtorEq, Nat.reduceEqDiff, Nat.reduceAdd, Nat.reduceSub, Nat.reduceMul, Nat.reduceLeDiff, Nat.reduceBEq, Int.reduceToNat, Int.reduceNeg, Int.reduceEq, Int.reduceLT, Int.reduceLE, Int.reduceAdd, Int.reduceSub, Int.reduceMul, Int.reduceBEq, Int.reduceBNe, Int.reduceGT, Int.reduceGE, beq_self_eq_true, bne_self_eq_false]
  have hlong : ∃ long : Nat, (long = 1 ∨ long = 2) ∧ (if unitsC d.en then 2 else 1) = long := ⟨if unitsC d.en then 2 else 1, by split <;> simp, rfl⟩
  obtain ⟨long, hl12, hl⟩ := hlong
  refine gcase_loop0 (fun ρ => lk ρ 0 = .ptr id ver pre.length ∧ lk ρ 4 = .ref st.length 0 0 0 ∧ lk ρ 5 = .ref (st.length + 1) 0 0 0 ∧ lk ρ 6 = .x (.int .i64 long)) (fun h1 => ?_) (fun h1 => ?_) (fun ρ hJ => ?_)
  · rw [h1] at hl
    have : long = 2 := hl.symm
    subst this
    simp -dsimp -implicitDefEqProofs +contextual (maxSteps := 3000000) (disch := omega) only [go_sem, ↓reduceIte, reduceCtorEq, Nat.reduceEqDiff, Nat.reduceAdd, Nat.reduceSub, Nat.reduceMul, Nat.reduceLeDiff, Nat.reduceBEq, Int.reduceToNat, Int.reduceNeg, Int.reduceEq, Int.reduceLT, Int.reduceLE, Int.reduceAdd, Int.reduceSub, Int.reduceMul, Int.reduceBEq, Int.reduceBNe, Int.reduceGT, Int.reduceGE, beq_self_eq_true, bne_self_eq_false]
    rfl
  · rw [h1] at hl
    have : long = 1 := hl.symm
    subst this
    simp -dsimp -implicitDefEqProofs +contextual (maxSteps := 3000000) (disch := omega) only [go_sem, ↓reduceIte, reduceCtorEq, Nat.reduceEqDiff, Nat.reduceAdd, Nat.reduceSub, Nat.reduceMul, Nat.reduceLeDiff, Nat.reduceBEq, Int.reduceToNat, Int.reduceNeg, Int.reduceEq, Int.reduceLT, Int.reduceLE, Int.reduceAdd, Int.reduceSub, Int.reduceMul, Int.reduceBEq, Int.reduceBNe, Int.reduceGT, Int.reduceGE, beq_self_eq_true, bne_self_eq_false]
    rfl
  obtain ⟨h0, h4, h5, h6⟩ := hJ
  unfold Dec.rest at h
  rw [hl] at h
  have hlp : 0 < long := by omega
  refine LoopC.intro (fun n ρ st' => ∃ (held : List UInt8) (rs : List Int) (v1 v2 : Nat), n = held.length ∧ held.length ≤ d.held.length ∧ (chunks long d.held.length = rs ++ chunks long held.length) ∧ rs.length + held.length ≤ d.held.length ∧
      st' = st.set id ⟨2, ver, 1, pre ++ (({ d with held := held } : Dec).cells ++ post)⟩ ++ [⟨2, v1, 1, icells (bads rs.length)⟩, ⟨2, v2, 1, icells rs⟩] ∧ lk ρ 0 = .ptr id ver pre.length ∧ lk ρ 4 = .ref st.length v1 0 rs.length ∧ lk ρ 5 = .ref (st.length + 1) v2 0 rs.length ∧ lk ρ 6 = .x (.int .i64 long)) d.held.length
    (Weak.refl ⟨d.held, [], 0, 0, rfl, Nat.le_refl _, rfl, by simp, ?_, h0, h4, h5, h6⟩) ?_
  · rw [set_same hb]; rfl
  rintro n ρ st' ⟨held, rs, v1, v2, rfl, hle, hch, hlen, rfl, g0, g4, g5, g6⟩
  simp -dsimp -implicitDefEqProofs +contextual (maxSteps := 3000000) (disch := omega) only [go_sem, ↓reduceIte, reduceCtorEq, Nat.reduceEqDiff, Nat.reduceAdd, Nat.reduceSub, Nat.reduceMul, Nat.reduceLeDiff, Nat.reduceBEq, Int.reduceToNat, Int.reduceNeg, Int.reduceEq, Int.reduceLT, Int.reduceLE, Int.reduceAdd, Int.reduceSub, Int.reduceMul, Int.reduceBEq, Int.reduceBNe, Int.reduceGT, Int.reduceGE, beq_self_eq_true, bne_self_eq_false, g0, g4, g5, g6, Dec.cells]
  refine gcase.mk (fun hemp => ?_) (fun hne => ?_)
  · have he : held = [] := by simpa using hemp
    subst he
    rw [show chunks long ([] : List UInt8).length = [] from rfl, List.append_nil] at hch
    rw [hch] at h
    exact Fin.two ((Base.refl _).set _ _ hu) (by decide) (by decide) (bads_len _).symm rfl h
  · have hpos : 0 < held.length := by
      cases held with
      | nil => cases hne
      | cons a r => simp
    refine ⟨.i64, rfl, rfl, by omega, by omega, by omega, by omega, by split <;> omega, by split <;> omega, by omega, by omega, ?_⟩
    have hm : (if (held.length : Int) < long then (held.length : Int) else (long : Int)) = ((min long held.length : Nat) : Int) := by split <;> omega
    have hdrop : (bytes held).extract (((min long held.length : Nat) : Int)).toNat held.length = bytes (held.drop (min long held.length)) := by
      rw [bytes_extract, List.take_length, Int.toNat_natCast]
    rw [hm, hdrop]
    have hbads : icells (bads rs.length) ++ [V.x (.int .i64 65533)] = icells (bads (rs ++ [((min long held.length : Nat) : Int)]).length) := by
      simp [icells, bads, List.replicate_succ']
    have hrs : icells rs ++ [V.x (.int .i64 ((min long held.length : Nat) : Int))] = icells (rs ++ [((min long held.length : Nat) : Int)]) := by
      simp [icells]
    have ht1 : (icells (bads rs.length)).take rs.length = icells (bads rs.length) := icells_all _ (bads_len _).symm
    have ht2 : (icells rs).take rs.length = icells rs := icells_all _ rfl
    rw [ht1, ht2, hbads, hrs]
    refine loopE.go (held.drop (min long held.length)).length (by simp; omega) ?_
    refine Weak.trunc (st1 := st.set id ⟨2, ver, 1, pre ++ (({ d with held := held.drop (min long held.length) } : Dec).cells ++ post)⟩) (l := [⟨2, v1 + 1, 1, icells (bads (rs ++ [((min long held.length : Nat) : Int)]).length)⟩, ⟨2, v2 + 1, 1, icells (rs ++ [((min long held.length : Nat) : Int)])⟩]) (l' := [_, _]) ((Base.refl _).set _ _ ?_) ?_ ?_
    · simp only [Dec.shut, Dec.cells, under_append, V.under.all, V.under, Bool.true_and, Bool.and_eq_true] at hu ⊢
      exact hu
    · intro b hb2 _
      rcases List.mem_cons.1 hb2 with rfl | hb2
      · exact icells_under _ _
      · rcases List.mem_cons.1 hb2 with rfl | hb2
        · exact icells_under _ _
        · cases hb2
    · refine Weak.refl ?_
      refine ⟨held.drop (min long held.length), rs ++ [((min long held.length : Nat) : Int)], v1 + 1, v2 + 1, rfl, by simp; omega, ?_, by simp; omega, rfl, ?_⟩
      · rw [hch, chunks_step hlp hpos]; simp
      · simp -dsimp -implicitDefEqProofs +contextual (maxSteps := 3000000) (disch := omega) only [go_sem, ↓reduceIte, reduceCtorEq, Nat.reduceEqDiff, Nat.reduceAdd, Nat.reduceSub, Nat.reduceMul, Nat.reduceLeDiff, Nat.reduceBEq, Int.reduceToNat, Int.reduceNeg, Int.reduceEq, Int.reduceLT, Int.reduceLE, Int.reduceAdd, Int.reduceSub, Int.reduceMul, Int.reduceBEq, Int.reduceBNe, Int.reduceGT, Int.reduceGE, beq_self_eq_true, bne_self_eq_false, g0, g6]

theorem s_l2Flush (d : Dec) (hh : d.held.length ≤ 4194304) {st : Store} {K : V → Store → Prop} (h : K (.tup [.agg d.shut.cells, V.ints (bads d.rest.length), V.ints d.rest]) st) :
    Spec Proofs.Tryd.prog 17 [.agg d.cells] st K := by
  refine Spec.of_fd fd_spec_l2Flush rfl ?_
  simp -dsimp -implicitDefEqProofs +contextual (maxSteps := 3000000) (disch := omega) only [go_sem, ↓reduceIte, reduceCtorEq, Nat.reduceEqDiff, Nat.reduceAdd, Nat.reduceSub, Nat.reduceMul, Nat.reduceLeDiff, Nat.reduceBEq, Int.reduceToNat, Int.reduceNeg, Int.reduceEq, Int.reduceLT, Int.reduceLE, Int.reduceAdd, Int.reduceSub, Int.reduceMul, Int.reduceBEq, Int.reduceBNe, Int.reduceGT, Int.reduceGE, beq_self_eq_true, bne_self_eq_false, c_spec_l2Flush, Dec.cells]
  unfold Dec.rest at h
  have hlong : ∃ long : Nat, (long = 1 ∨ long = 2) ∧ (if unitsC d.en then 2 else 1) = long := ⟨if unitsC d.en then 2 else 1, by split <;> simp, rfl⟩
  obtain ⟨long, hl12, hl⟩ := hlong
  rw [hl] at h
  have hlp : 0 < long := by omega
  refine LoopC.intro (fun n ρ st' => ∃ (held : List UInt8) (rs : List Int) (e1 e2 v1 v2 : Nat), n = held.length ∧ held.length ≤ d.held.length ∧ (chunks long d.held.length = rs ++ chunks long held.length) ∧ rs.length + held.length ≤ d.held.length ∧ e1 ≠ 0 ∧ e2 ≠ 0 ∧
      st' = st ++ [⟨2, 0, 1, d.cells⟩, ⟨2, 0, 1, [.x (.int .i64 0), .x (.int .i64 0), .x (.int .i64 0), .x (.string ⟨#[]⟩)]⟩, ⟨e1, v1, 1, icells (bads rs.length)⟩, ⟨e2, v2, 1, icells rs⟩] ∧ lk ρ 1 = .ptr st.length 0 0 ∧ lk ρ 2 = .ptr (st.length + 1) 0 0 ∧ lk ρ 5 = .ref (st.length + 2) v1 0 rs.length ∧ lk ρ 6 = .ref (st.length + 3) v2 0 rs.length ∧ lk ρ 7 = .x (.string (bytes held))) d.held.length
    (Weak.nil 5 1 rfl (Weak.nil 6 1 rfl (Weak.refl ⟨d.held, [], 1, 1, 0, 0, rfl, Nat.le_refl _, rfl, by simp, by decide, by decide, by simp [Dec.cells, bads, icells], ?_⟩))) ?_
  · simp -dsimp -implicitDefEqProofs +contextual (maxSteps := 3000000) (disch := omega) only [go_sem, ↓reduceIte, reduceCtorEq, Nat.reduceEqDiff, Nat.reduceAdd, Nat.reduceSub, Nat.reduceMul, Nat.reduceLeDiff, Nat.reduceBEq, Int.reduceToNat, Int.reduceNeg, Int.reduceEq, Int.reduceLT, Int.reduceLE, Int.reduceAdd, Int.reduceSub, Int.reduceMul, Int.reduceBEq, Int.reduceBNe, Int.reduceGT, Int.reduceGE, beq_self_eq_true, bne_self_eq_false]
  rintro n ρ st' ⟨held, rs, e1, e2, v1, v2, rfl, hle, hch, hlen, he1, he2, rfl, g1, g2, g5, g6, g7⟩
  simp -dsimp -implicitDefEqProofs +contextual (maxSteps := 3000000) (disch := omega) only [go_sem, ↓reduceIte, reduceCtorEq, Nat.reduceEqDiff, Nat.reduceAdd, Nat.reduceSub, Nat.reduceMul, Nat.reduceLeDiff, Nat.reduceBEq, Int.reduceToNat, Int.reduceNeg, Int.reduceEq, Int.reduceLT, Int.reduceLE, Int.reduceAdd, Int.reduceSub, Int.reduceMul, Int.reduceBEq, Int.reduceBNe, Int.reduceGT, Int.reduceGE, beq_self_eq_true, bne_self_eq_false, g1, g2, g5, g6, g7, Dec.cells]
  refine gcase.mk (fun hemp => ?_) (fun hne => ?_)
  · have he : held = [] := by simpa using hemp
    subst he
    rw [show chunks long ([] : List UInt8).length = [] from rfl, List.append_nil] at hch
    rw [hch] at h
    refine Fin.see (Base.refl _) (Sees.tup (.cons (Sees.pure rfl) (.cons (Sees.ints (by omega) (own_get _ _ 2) he1 (bads_len _).symm) (.cons (Sees.ints (by omega) (own_get _ _ 3) he2 rfl) .nil)))) h
  · have hpos : 0 < held.length := by
      cases held with
      | nil => cases hne
      | cons a r => simp
    refine s_l2Units _ ?_
    simp -dsimp -implicitDefEqProofs +contextual (maxSteps := 3000000) (disch := omega) only [go_sem, ↓reduceIte, reduceCtorEq, Nat.reduceEqDiff, Nat.reduceAdd, Nat.reduceSub, Nat.reduceMul, Nat.reduceLeDiff, Nat.reduceBEq, Int.reduceToNat, Int.reduceNeg, Int.reduceEq, Int.reduceLT, Int.reduceLE, Int.reduceAdd, Int.reduceSub, Int.reduceMul, Int.reduceBEq, Int.reduceBNe, Int.reduceGT, Int.reduceGE, beq_self_eq_true, bne_self_eq_false, g1, g2, g5, g6, g7]
    have ht1 : (icells (bads rs.length)).take rs.length = icells (bads rs.length) := icells_all _ (bads_len _).symm
    have ht2 : (icells rs).take rs.length = icells rs := icells_all _ rfl
    rw [ht1, ht2]
    have key : ∀ m : Nat, m = min long held.length → ∀ ρ' : Env, (lk ρ' 1 = .ptr st.length 0 0 ∧ lk ρ' 2 = .ptr (st.length + 1) 0 0 ∧ lk ρ' 5 = .ref (st.length + 2) (v1 + 1) 0 (rs.length + 1) ∧ lk ρ' 6 = .ref (st.length + 3) (v2 + 1) 0 (rs.length + 1) ∧ lk ρ' 7 = .x (.string ((bytes held).extract m held.length))) → ∀ l' : Store,
        Weak st (fun ρ st' => ∃ (held' : List UInt8) (rs : List Int) (e1 e2 v1 v2 : Nat), held.length - m = held'.length ∧ held'.length ≤ d.held.length ∧ (chunks long d.held.length = rs ++ chunks long held'.length) ∧ rs.length + held'.length ≤ d.held.length ∧ e1 ≠ 0 ∧ e2 ≠ 0 ∧
          st' = st ++ [⟨2, 0, 1, d.cells⟩, ⟨2, 0, 1, [.x (.int .i64 0), .x (.int .i64 0), .x (.int .i64 0), .x (.string ⟨#[]⟩)]⟩, ⟨e1, v1, 1, icells (bads rs.length)⟩, ⟨e2, v2, 1, icells rs⟩] ∧ lk ρ 1 = .ptr st.length 0 0 ∧ lk ρ 2 = .ptr (st.length + 1) 0 0 ∧ lk ρ 5 = .ref (st.length + 2) v1 0 rs.length ∧ lk ρ 6 = .ref (st.length + 3) v2 0 rs.length ∧ lk ρ 7 = .x (.string (bytes held'))) ρ'
        (st ++ (⟨2, 0, 1, [.x (.int .i64 d.en), .x (.int .i64 d.shift), .x (.int .i64 d.loose), .x (.string (bytes d.held))]⟩ :: ⟨2, 0, 1, [.x (.int .i64 0), .x (.int .i64 0), .x (.int .i64 0), .x (.string ⟨#[]⟩)]⟩ :: ⟨2, v1 + 1, 1, icells (bads rs.length) ++ [.x (.int .i64 65533)]⟩ :: ⟨2, v2 + 1, 1, icells rs ++ [.x (.int .i64 m)]⟩ :: l')) := by
      rintro m rfl ρ' ⟨f1, f2, f5, f6, f7⟩ l'
      have hdrop : (bytes held).extract (min long held.length) held.length = bytes (held.drop (min long held.length)) := by
        rw [bytes_extract, List.take_length]
      have hbads : icells (bads rs.length) ++ [V.x (.int .i64 65533)] = icells (bads (rs ++ [((min long held.length : Nat) : Int)]).length) := by
        simp [icells, bads, List.replicate_succ']
      have hrs : icells rs ++ [V.x (.int .i64 ((min long held.length : Nat) : Int))] = icells (rs ++ [((min long held.length : Nat) : Int)]) := by
        simp [icells]
      rw [hbads, hrs]
      refine Weak.trunc (st1 := st) (l := [_, _, _, _]) (l' := l') (Base.refl _) ?_ ?_
      · intro b hb2 _
        rcases List.mem_cons.1 hb2 with rfl | hb2
        · rfl
        rcases List.mem_cons.1 hb2 with rfl | hb2
        · rfl
        rcases List.mem_cons.1 hb2 with rfl | hb2
        · exact icells_under _ _
        rcases List.mem_cons.1 hb2 with rfl | hb2
        · exact icells_under _ _
        cases hb2
      · refine Weak.refl ?_
        refine ⟨held.drop (min long held.length), rs ++ [((min long held.length : Nat) : Int)], 2, 2, v1 + 1, v2 + 1, by simp, by simp; omega, ?_, by simp; omega, by decide, by decide, rfl, ?_⟩
        · rw [hch, chunks_step hlp hpos]; simp
        · simp -dsimp -implicitDefEqProofs +contextual (maxSteps := 3000000) (disch := omega) only [go_sem, ↓reduceIte, reduceCtorEq, Nat.reduceEqDiff, Nat.reduceAdd, Nat.reduceSub, Nat.reduceMul, Nat.reduceLeDiff, Nat.reduceBEq, Int.reduceToNat, Int.reduceNeg, Int.reduceEq, Int.reduceLT, Int.reduceLE, Int.reduceAdd, Int.reduceSub, Int.reduceMul, Int.reduceBEq, Int.reduceBNe, Int.reduceGT, Int.reduceGE, beq_self_eq_true, bne_self_eq_false, f1, f2, f5, f6, f7]
          rw [hdrop]
    refine gcase.mk (fun hu => gcase.dec (fun h1 => ?_) (fun h1 => ?_)) (fun hu => ?_)
    · rw [hu] at hl
      have : long = 2 := hl.symm
      subst this
      refine ⟨by omega, he1, by omega, by omega, he2, by omega, by omega, by omega, loopE.go (held.length - 2) (by omega) (key 2 (by omega) _ ?_ _)⟩
      simp -dsimp -implicitDefEqProofs +contextual (maxSteps := 3000000) (disch := omega) only [go_sem, ↓reduceIte, reduceCtorEq, Nat.reduceEqDiff, Nat.reduceAdd, Nat.reduceSub, Nat.reduceMul, Nat.reduceLeDiff, Nat.reduceBEq, Int.reduceToNat, Int.reduceNeg, Int.reduceEq, Int.reduceLT, Int.reduceLE, Int.reduceAdd, Int.reduceSub, Int.reduceMul, Int.reduceBEq, Int.reduceBNe, Int.reduceGT, Int.reduceGE, beq_self_eq_true, bne_self_eq_false, g1, g2]
    · rw [hu] at hl
      have : long = 2 := hl.symm
      subst this
      refine ⟨by omega, he1, by omega, by omega, he2, by omega, by omega, by omega, loopE.go (held.length - 1) (by omega) (key 1 (by omega) _ ?_ _)⟩
      simp -dsimp -implicitDefEqProofs +contextual (maxSteps := 3000000) (disch := omega) only [go_sem, ↓reduceIte, reduceCtorEq, Nat.reduceEqDiff, Nat.reduceAdd, Nat.reduceSub, Nat.reduceMul, Nat.reduceLeDiff, Nat.reduceBEq, Int.reduceToNat, Int.reduceNeg, Int.reduceEq, Int.reduceLT, Int.reduceLE, Int.reduceAdd, Int.reduceSub, Int.reduceMul, Int.reduceBEq, Int.reduceBNe, Int.reduceGT, Int.reduceGE, beq_self_eq_true, bne_self_eq_false, g1, g2]
    · rw [hu] at hl
      have : long = 1 := hl.symm
      subst this
      refine ⟨by omega, he1, by omega, by omega, he2, by omega, by omega, by omega, loopE.go (held.length - 1) (by omega) (key 1 (by omega) _ ?_ _)⟩
      simp -dsimp -implicitDefEqProofs +contextual (maxSteps := 3000000) (disch := omega) only [go_sem, ↓reduceIte, reduceCtorEq, Nat.reduceEqDiff, Nat.reduceAdd, Nat.reduceSub, Nat.reduceMul, Nat.reduceLeDiff, Nat.reduceBEq, Int.reduceToNat, Int.reduceNeg, Int.reduceEq, Int.reduceLT, Int.reduceLE, Int.reduceAdd, Int.reduceSub, Int.reduceMul, Int.reduceBEq, Int.reduceBNe, Int.reduceGT, Int.reduceGE, beq_self_eq_true, bne_self_eq_false, g1, g2]

end Go.VS
