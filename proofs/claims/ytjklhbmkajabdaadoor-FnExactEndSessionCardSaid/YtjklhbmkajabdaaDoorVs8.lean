/- The runs of the model's operations, one by one: append, literals. -/
import Derived.Test.YtjklhbmkajabdaaDoorVs7
import Derived.Laws.BytesArg
set_option linter.all false
namespace Go.VS
open Go Go.RowKit

section ops
variable {P : Program} {st : Store} {μ : List Mu} {w : World} {R : Nat → Prop} {ρ : Env} {a : Act} {K : V → Store → Prop}

/-- The cells of a slice, as append takes them: in every world with this memory. -/
theorem cells_run (hs : SOk st μ w R) {sz : Nat} (hsz : 0 < sz) {c : V} {v : Value} (hc : RepV st μ w R c v) {Q : List V → Nat → Prop} (h : cellsOf st sz c Q) :
    ∃ cs k vs, Q cs k ∧ (∀ w', (Builtin.lenOf v).run P w' = .ok k w') ∧ (∀ w', w'.heap = w.heap → (Builtin.firstCells sz k v).run P w' = .ok (List.toArray vs) w') ∧ cs.length = k * sz ∧ vs.length = k * sz ∧
      ∀ (j : Nat) d u, cs[j]? = some d → vs[j]? = some u → one u ∧ RepV st μ w R d u := by
  have hcell : ∀ {w' : World}, w'.heap = w.heap → ∀ a, w'.cell? a = w.cell? a := fun hw a => by unfold World.cell?; rw [hw]
  unfold cellsOf at h
  split at h
  · rename_i n s f
    obtain ⟨rfl, h⟩ := h
    rcases hc.sl_inv.sl_inv with ⟨rfl, rfl⟩ | ⟨b, off, cap, g, hR, hcc, hg, hf, rfl⟩
    · exact ⟨_, _, [], h, fun w' => by simp [Builtin.lenOf], fun w' _ => by simp [Builtin.firstCells], by simp, by simp, fun j d u hj => by simp at hj⟩
    · refine ⟨_, _, (List.range (n * s)).map fun p => g (p / s) (p % s), h, fun w' => by simp [Builtin.lenOf], fun w' hw => ?_, ?_, by simp, fun j d u hj hu => ?_⟩
      · simp only [Builtin.firstCells]
        refine run_loadCells w' ⟨b, off, none⟩ (n * s) (fun p => g (p / s) (p % s)) (fun p hp => ?_)
        rw [hcell hw, add_addr]
        have h1 : p / s < n := Nat.div_lt_of_lt_mul (by rw [Nat.mul_comm]; exact hp)
        have h2 := Nat.mod_lt p hsz
        have := (hg (p / s) (p % s) h1 h2).1
        rwa [Nat.add_assoc, show p / s * s + p % s = p by rw [Nat.mul_comm]; exact Nat.div_add_mod p s] at this
      · have : ∀ m, ((List.range m).flatMap fun i => rng (f i) 0 s).length = m * s := fun m => by
          induction m with
          | zero => simp
          | succ m ih => rw [List.range_succ, List.flatMap_append, List.length_append, ih]; simp [rng_len, Nat.add_mul]
        exact this n
      · rw [grid_get f s hsz] at hj
        split at hj
        · rename_i hp
          cases hj
          rw [List.getElem?_map, List.getElem?_range hp] at hu
          cases hu
          have q1 : j / s < n := Nat.div_lt_of_lt_mul (by rw [Nat.mul_comm]; exact hp)
          exact ⟨(hg _ _ q1 (Nat.mod_lt _ hsz)).2, .imm (hf _ _ q1 (Nat.mod_lt _ hsz))⟩
        · cases hj
  · rename_i id ver off n
    obtain ⟨k, hk, hver, hk0, rfl, h⟩ := getB_inv h
    obtain ⟨mu, hm, hr⟩ := hc.ref_get hk hver hk0
    rcases hr with ⟨_, _, rfl, rfl⟩ | ⟨h2, hfit, cap, rfl, hcc, hcap⟩ | ⟨_, rfl, _, ad, rfl⟩
    · exact ⟨_, _, [], h, fun w' => by simp [Builtin.lenOf], fun w' _ => by simp [Builtin.firstCells], by simp, by simp, fun j d u hj => by simp at hj⟩
    · obtain ⟨arr, ty, e1, e2, e3, e4, e5⟩ := hs.liv id k mu hk hm h2
      have hfit' : off * k.sz + n * k.sz ≤ k.cells.length := by rw [← Nat.add_mul]; exact hfit
      refine ⟨_, _, (List.range (n * k.sz)).map fun p => arr.getD (mu.base + (off * k.sz + p)) undef, h, fun w' => by simp [Builtin.lenOf], fun w' hw => ?_, by simp; omega, by simp, fun j d u hj hu => ?_⟩
      · simp only [Builtin.firstCells]
        refine run_loadCells w' _ (n * k.sz) (fun p => arr.getD (mu.base + (off * k.sz + p)) undef) (fun p hp => ?_)
        rw [hcell hw, add_addr, cell_of e1, Nat.add_assoc]
        obtain ⟨v, g1, _, _⟩ := e5 (off * k.sz + p) _ (List.getElem?_eq_getElem (by omega))
        rw [g1, Array.getD_eq_getD_getElem?, g1]; rfl
      · have hj' : j < n * k.sz := by have := getElem?_lt hj; simp at this; omega
        rw [List.getElem?_take_of_lt hj', List.getElem?_drop] at hj
        rw [List.getElem?_map, List.getElem?_range hj'] at hu
        cases hu
        obtain ⟨v, g1, g2, g3⟩ := e5 _ d hj
        show one (arr.getD (mu.base + (off * k.sz + j)) undef) ∧ RepV st μ w R d (arr.getD (mu.base + (off * k.sz + j)) undef)
        rw [Array.getD_eq_getD_getElem?, g1]
        exact ⟨g2, g3⟩
    · exact ⟨_, _, [], h, fun w' => by simp [Builtin.lenOf], fun w' _ => by simp [Builtin.firstCells, loadCells, loadCellsFrom], by simp, by simp, fun j d u hj => by simp at hj⟩
  · have e := hc.x_inv
    subst e
    exact ⟨_, _, [], h, fun w' => by simp [Builtin.lenOf], fun w' _ => by simp [Builtin.firstCells], by simp, by simp, fun j d u hj => by simp at hj⟩
  · rename_i s
    have e := hc.x_inv
    subst e
    obtain ⟨rfl, h⟩ := h
    refine ⟨_, _, s.data.toList.map fun b => .int .u8 b.toNat, h, fun w' => by simp [Builtin.lenOf], fun w' _ => ?_, by simp, by simp, fun j d u hj hu => ?_⟩
    · simp only [Builtin.firstCells, Sem.run_pure]
      congr 1
      apply Array.ext'
      have : s.extract 0 s.size = s := by
        apply ByteArray.ext
        rw [ByteArray.data_extract]
        simp
      rw [this]; simp
    · rw [List.getElem?_map] at hj hu
      cases hb : s.data.toList[j]? with
      | none => simp [hb] at hj
      | some b => simp [hb] at hj hu; subst hj; subst hu; exact ⟨trivial, .imm (.x _)⟩
  · exact h.elim

/-- append's run where it grows. -/
theorem append_grow {t tx e sz by' : Nat} {ty : TypeId} {ag : Bool} {z : List Value} (hu : P.underlying t = some (.slice e)) (hi : inf P e = some (sz, by', ag, z)) (htx : intT P tx = none) (htx' : (P.underlying tx).isSome = true)
    {base : Option Addr} {n cap k : Nat} {x : Value} {olds news : List Value} (hl : (Builtin.lenOf x).run P w = .ok k w) (hby0 : 0 < by')
    (hold : ∀ w', w'.heap = w.heap → (Builtin.firstCells sz n (.slice base n cap)).run P w' = .ok olds.toArray w') (hnew : ∀ w', w'.heap = w.heap → (Builtin.firstCells sz k x).run P w' = .ok news.toArray w')
    (hfull : cap < n + k) (hby : (n + k) * by' ≤ 140737488355328) :
    ∃ (newCap : Nat) (rest : Array Value), n + k ≤ newCap ∧ rest.size = (newCap - (n + k)) * z.length ∧
      (Builtin.append_ #[t, tx] ty #[.slice base n cap, x]).run P w = .ok (.slice (some ⟨w.heap.size, 0, none⟩) (n + k) newCap) (w.drew.alloc (.cells (olds.toArray ++ news.toArray ++ rest) e)) := by
  obtain ⟨i, hr, hi1, hi2, _⟩ := run_info w hi
  obtain ⟨i', hr', hi1', hi2', _⟩ := run_info w.drew hi
  obtain ⟨zv, hz, hzl⟩ := run_zero w.drew hi
  obtain ⟨d, hd⟩ := Option.isSome_iff_exists.1 htx'
  have hz0 : ∀ k, d ≠ .int k := fun k e => by simp [intT, hd, e] at htx
  have hsmall : n + k ≤ 140737488355328 := Nat.le_trans (Nat.le_mul_of_pos_right _ hby0) hby
  refine ⟨n + k + w.tape w.drawn (.appendCap (n + k) cap e) % (2 ^ 63 - (n + k)), Builtin.zeroCells zv.cells (n + k + w.tape w.drawn (.appendCap (n + k) cap e) % (2 ^ 63 - (n + k)) - (n + k)), by omega, by simp [size_zeroCells, ← hzl], ?_⟩
  have hgr := growslice_fits (need := n + k) (old := cap) (bytes := by') hfull hby
  have h1 : (Builtin.firstCells sz n (.slice base n cap)).run P w.drew = .ok olds.toArray w.drew := hold _ rfl
  have h2 : (Builtin.firstCells sz k x).run P w.drew = .ok news.toArray w.drew := hnew _ rfl
  unfold Builtin.append_
  simp only [List.getElem?_toArray, List.getElem?_cons_zero, List.getElem?_cons_succ, Sem.run_bind, run_und w hu, run_und w hd, Result.andThen_ok, Sem.run_pure, run_size w hi]
  simp only [Bool.false_eq_true, if_false, false_or, Bool.not_false, if_true, Sem.run_bind, hl, Result.andThen_ok]
  rw [if_neg (Nat.not_le.mpr hfull)]
  simp only [Sem.run_bind, hr, Result.andThen_ok, hi2]
  rw [if_neg (by omega)]
  simp only [Sem.run_bind, hr, Result.andThen_ok, hi2, Sem.run_pure]
  rw [if_neg (by simp; omega)]
  simp only [Sem.run_bind, hr, Result.andThen_ok, hi2, Sem.run_pure, run_choose, Question.forced, Bool.false_eq_true, if_false, Question.cut, run_askRoom, World.drew_eq, hr', hi2', run_askRoom, h1, h2, hz, newRow, run_newObj_alloc, World.size_drew]


/-- The cells of a new row: what was there, what is appended, and the rest. -/
theorem app_cells {olds news : List Value} {rest : Array Value} {ocs ncs : List V} (ho : ocs.length = olds.length) (hn : ncs.length = news.length)
    (h1 : ∀ (j : Nat) d u, ocs[j]? = some d → olds[j]? = some u → one u ∧ RepV st μ w R d u) (h2 : ∀ (j : Nat) d u, ncs[j]? = some d → news[j]? = some u → one u ∧ RepV st μ w R d u) :
    ∀ (j : Nat) c, (ocs ++ ncs)[j]? = some c → ∃ v, (olds.toArray ++ news.toArray ++ rest)[j]? = some v ∧ one v ∧ RepV st μ w R c v := by
  intro j c hj
  rw [List.getElem?_append] at hj
  by_cases h : j < ocs.length
  · rw [if_pos h] at hj
    have hlt : j < olds.length := by omega
    refine ⟨olds[j], ?_, h1 j c _ hj (List.getElem?_eq_getElem hlt)⟩
    rw [← Array.getElem?_toList]
    simp only [Array.toList_append, List.append_assoc]
    rw [List.getElem?_append_left (by simpa using hlt)]
    simp [hlt]
  · rw [if_neg h] at hj
    have hlt : j - ocs.length < news.length := by have := getElem?_lt hj; omega
    refine ⟨news[j - ocs.length], ?_, h2 _ c _ hj (List.getElem?_eq_getElem hlt)⟩
    rw [← Array.getElem?_toList]
    simp only [Array.toList_append, List.append_assoc]
    show (olds ++ (news ++ rest.toList))[j]? = _
    rw [List.getElem?_append_right (by omega), List.getElem?_append_left (by omega), show j - olds.length = j - ocs.length by omega, List.getElem?_eq_getElem hlt]

theorem SOk.drew (hs : SOk st μ w R) : SOk st μ w.drew R := (drew_ok hs).1

/-- append in place. -/
theorem append_room {t tx e sz by' : Nat} {ty : TypeId} {ag : Bool} {z : List Value} (hu : P.underlying t = some (.slice e)) (hi : inf P e = some (sz, by', ag, z)) (htx : intT P tx = none) (htx' : (P.underlying tx).isSome = true)
    {base : Option Addr} {n cap k : Nat} {x : Value} {news : List Value} {w' : World} (hl : (Builtin.lenOf x).run P w = .ok k w) (hnew : (Builtin.firstCells sz k x).run P w = .ok news.toArray w)
    (hroom : n + k ≤ cap) (hst : (match base with | some a => storeCells (a.add (n * sz)) news | none => pure ()).run P w = .ok () w') :
    (Builtin.append_ #[t, tx] ty #[.slice base n cap, x]).run P w = .ok (.slice base (n + k) cap) w' := by
  obtain ⟨d, hd⟩ := Option.isSome_iff_exists.1 htx'
  have hz0 : ∀ k, d ≠ .int k := fun k e => by simp [intT, hd, e] at htx
  unfold Builtin.append_
  simp only [List.getElem?_toArray, List.getElem?_cons_zero, List.getElem?_cons_succ, Sem.run_bind, run_und w hu, run_und w hd, Result.andThen_ok, Sem.run_pure, run_size w hi]
  simp only [Bool.false_eq_true, if_false, false_or, Bool.not_false, if_true, Sem.run_bind, hl, Result.andThen_ok]
  rw [if_pos hroom]
  simp only [Sem.run_bind, hnew, Result.andThen_ok]
  cases base with
  | none => simp at hst; subst hst; simp
  | some a => simp only at hst; simp [hst]

theorem done_app (hs : SOk st μ w R) {t tx : Nat} {ty : TypeId} {s x : V} {sv xv : Value} (hsv : RepV st μ w R s sv) (hxv : RepV st μ w R x xv) (h : appW P st t tx s x K) :
    ∃ val w' c st' μ' R', (Builtin.append_ #[t, tx] ty #[sv, xv]).run P w = .ok val w' ∧ Ext st μ w R st' μ' w' R' ∧ SOk st' μ' w' R' ∧ RepV st' μ' w' R' c val ∧ K c st' := by
  unfold appW at h
  split at h
  · exact h.elim
  rename_i e hel
  split at h
  · exact h.elim
  rename_i sz by' ag z hi
  obtain ⟨htx, htx', hsz, hby0, hzl, h⟩ := h
  obtain ⟨cs, k, vs, h1, hlen, hnew, hcl, hvl, hrep'⟩ := cells_run (P := P) hs hsz hxv h
  clear h
  have h := h1
  clear h1
  have hu := el_inv hel
  have up : ∀ {d : V} {u : Value}, RepV st μ w R d u → RepV st μ w.drew R d u := fun hd => RepV.mono (w := w) (w' := w.drew) (StLe.refl _ _) (fun _ _ => rfl) (fun _ h => h) hd
  have grow0 : 0 < k → k * by' ≤ 140737488355328 → ∀ base cap, cap < 0 + k → (∀ w', w'.heap = w.heap → (Builtin.firstCells sz 0 (.slice base 0 cap)).run P w' = .ok (#[] : Array Value) w') →
      ∃ newCap arr, (Builtin.append_ #[t, tx] ty #[.slice base 0 cap, xv]).run P w = .ok (.slice (some ⟨w.heap.size, 0, none⟩) k newCap) (w.drew.alloc (.cells arr e)) ∧ k ≤ newCap ∧ newCap * sz = arr.size ∧
        cs.length ≤ arr.size ∧ ∀ (j : Nat) c, cs[j]? = some c → ∃ v, arr[j]? = some v ∧ one v ∧ RepV st μ w.drew R c v := by
    intro hk hb base cap hcap hf
    obtain ⟨newCap, rest, g1, g2, g3⟩ := append_grow (P := P) (w := w) (ty := ty) hu hi htx htx' (base := base) (n := 0) (cap := cap) (k := k) (x := xv) (olds := []) (news := vs) (hlen w) hby0 (fun w' hw => by simpa using hf w' hw) hnew hcap (by simpa using hb)
    have hsize : newCap * sz = (([] : List Value).toArray ++ vs.toArray ++ rest).size := by
      simp only [List.size_toArray, List.length_nil, Array.size_append, hvl, g2, hzl, Nat.zero_add]
      rw [← Nat.add_mul]; congr 1; omega
    refine ⟨newCap, _, by simpa using g3, by omega, by simpa using hsize, ?_, ?_⟩
    · rw [hcl]
      have := Nat.mul_le_mul_right sz (show k ≤ newCap by omega)
      simp only [List.size_toArray, List.length_nil, Array.size_append, Nat.zero_add] at hsize
      simp; omega
    · intro j c hj
      obtain ⟨v, q1, q2, q3⟩ := app_cells (st := st) (μ := μ) (w := w) (R := R) (olds := []) (ocs := []) (news := vs) (ncs := cs) (rest := rest) rfl (by omega) (fun j d u hd => by simp at hd) hrep' j c (by simpa using hj)
      exact ⟨v, by simpa using q1, q2, up q3⟩
  split at h
  · have e' := hsv.x_inv
    subst e'
    obtain ⟨hb, h1, h2⟩ := h
    by_cases hk : k = 0
    · subst hk
      have hvs : vs = [] := List.eq_nil_of_length_eq_zero (by simpa using hvl)
      subst hvs
      exact ⟨.slice none 0 0, w, _, st, μ, R, by simpa using append_room (P := P) (ty := ty) hu hi htx htx' (base := none) (n := 0) (cap := 0) (hlen w) (hnew w rfl) (by omega) (w' := w) rfl, Ext.refl _ _ _ _, hs, hsv, h2 rfl⟩
    · obtain ⟨newCap, arr, g1, g2, g3, g4, g5⟩ := grow0 (by omega) hb none 0 (by omega) (fun w' _ => by simp [Builtin.firstCells])
      obtain ⟨k1, k2, k3⟩ := row_ok (ty := e) (sz := sz) (n := k) (cap := newCap) hs.drew g4 (by omega) g2 (by omega) g5
      exact ⟨_, _, _, _, _, _, g1, (drew_ok hs).2.trans k2, k1, k3, h1 (by omega)⟩
  · rename_i id ver off n
    obtain ⟨b, hb, hver, hb0, rfl, hbd, h⟩ := getB_inv h
    obtain ⟨mu, hm, hr⟩ := hsv.ref_get hb hver hb0
    obtain ⟨ocs, n', ovs, ⟨rfl, rfl⟩, hlen0, hold, hocl, hovl, horep⟩ := cells_run (P := P) hs hsz hsv (Q := fun cs k => cs = (b.cells.drop (off * b.sz)).take (n * b.sz) ∧ k = n)
      (by simp only [cellsOf, getB, hb]; exact ⟨hver, hb0, trivial, trivial, trivial⟩)
    -- where it grows
    have grown : ∀ base cap, sv = .slice base n' cap → cap < n' + k →
        ∃ val w' c st' μ' R', (Builtin.append_ #[t, tx] ty #[sv, xv]).run P w = .ok val w' ∧ Ext st μ w R st' μ' w' R' ∧ SOk st' μ' w' R' ∧ RepV st' μ' w' R' c val ∧ K c st' := by
      intro base cap e' hcap
      subst e'
      have hk : ¬ (b.kind = 1 ∧ k = 0) := fun ⟨h1, h2⟩ => by
        rcases hr with ⟨_, _, q, _⟩ | ⟨q, _⟩ | ⟨q, _⟩ <;> omega
      rw [if_neg hk] at h
      obtain ⟨newCap, rest, g1, g2, g3⟩ := append_grow (P := P) (w := w) (ty := ty) hu hi htx htx' (base := base) (n := n') (cap := cap) (k := k) (x := xv) (olds := ovs) (news := vs) (hlen w) hby0 hold hnew hcap hbd
      have hsize : newCap * b.sz = (ovs.toArray ++ vs.toArray ++ rest).size := by
        simp only [List.size_toArray, Array.size_append, hvl, hovl, g2, hzl]
        rw [← Nat.add_mul, ← Nat.add_mul]; congr 1; omega
      have hclen : ((b.cells.drop (off * b.sz)).take (n' * b.sz) ++ cs).length = (n' + k) * b.sz := by rw [List.length_append, hocl, hcl, Nat.add_mul]
      have hcapm : (n' + k) * b.sz ≤ newCap * b.sz := Nat.mul_le_mul_right _ g1
      obtain ⟨k1, k2⟩ := set_ok (w' := w.drew.alloc (.cells (ovs.toArray ++ vs.toArray ++ rest) e)) (k' := ⟨2, ver + 1, b.sz, (b.cells.drop (off * b.sz)).take (n' * b.sz) ++ cs⟩) (m' := ⟨w.heap.size, 0, (ovs.toArray ++ vs.toArray ++ rest).size⟩)
        hs hb hm (by simp; omega) (fun e' => by simp at e'; omega) rfl rfl rfl (by simp) (fun i hi' _ => heap_push w.drew _ hi') (fun _ => .inr (Nat.le_refl _)) (fun e' => by simp at e')
        (fun _ => ⟨_, e, heap_new w.drew _, rfl, by simp only [Nat.zero_add]; omega, fun j c hj => by
          obtain ⟨v, q1, q2, q3⟩ := app_cells (st := st) (μ := μ) (w := w) (R := R) (rest := rest) (by omega) (by omega) horep hrep' j c hj
          exact ⟨v, by simpa using q1, q2, q3⟩⟩)
      exact ⟨_, _, _, _, _, _, g3, k2, k1, .ref id (ver + 1) 0 (n' + k) _ _ _ (by rw [List.getElem?_set_self (getElem?_lt hb)]) (by rw [List.getElem?_set_self (getElem?_lt hm)]) (Nat.le_refl _) trivial
        (fun _ _ => .inr (.inl ⟨rfl, by simp only [Nat.zero_add]; omega, newCap, by simp, g1, by simp only [Nat.zero_add]; omega⟩)), h⟩
    rcases hr with ⟨hk1, rfl, rfl, rfl⟩ | ⟨hk2, hfit, cap, rfl, hc, hcap⟩ | ⟨hk2, rfl, hof, ad, rfl⟩
    · by_cases hk : k = 0
      · subst hk
        have hvs : vs = [] := List.eq_nil_of_length_eq_zero (by simpa using hvl)
        have hcs : cs = [] := List.eq_nil_of_length_eq_zero (by simpa using hcl)
        subst hvs; subst hcs
        rw [if_pos ⟨hk1, rfl⟩] at h
        obtain ⟨k1, k2⟩ := set_ok (w' := w) (k' := ⟨1, ver + 1, b.sz, (b.cells.drop (0 * b.sz)).take (0 * b.sz) ++ []⟩) (m' := mu) hs hb hm (by simp; omega) (fun e' => by simp at e'; omega) rfl rfl rfl (Nat.le_refl _) (fun _ _ _ => rfl) (fun e' => by simp at e') (fun _ => by simp) (fun e' => by simp at e')
        exact ⟨.slice none 0 0, w, _, _, _, _, by simpa using append_room (P := P) (ty := ty) hu hi htx htx' (base := none) (n := 0) (cap := 0) (hlen w) (hnew w rfl) (by omega) (w' := w) rfl, k2, k1,
          .ref id (ver + 1) 0 (0 + 0) _ _ _ (by rw [List.getElem?_set_self (getElem?_lt hb)]) (by rw [List.getElem?_set_self (getElem?_lt hm)]) (Nat.le_refl _) trivial (fun _ _ => .inl ⟨rfl, rfl, rfl, rfl⟩), h⟩
      · exact grown none 0 rfl (by omega)
    · by_cases hroom : n' + k ≤ cap
      · obtain ⟨arr, ty', e1, e2, e3, e4, e5⟩ := hs.liv id b mu hb hm hk2
        have hk : ¬ (b.kind = 1 ∧ k = 0) := fun ⟨h1, _⟩ => by omega
        rw [if_neg hk] at h
        have hplace : mu.base + off * b.sz + n' * b.sz + vs.length ≤ arr.size := by
          rw [hvl, e2]
          have := Nat.mul_le_mul_right b.sz (show off + n' + k ≤ off + cap by omega)
          simp only [Nat.add_mul] at this hcap ⊢; omega
        have hone : ∀ v ∈ vs, v.oneCell' = true := fun v hv => by
          obtain ⟨j, hj, rfl⟩ := List.mem_iff_getElem.1 hv
          exact one_cell (hrep' j cs[j] _ (List.getElem?_eq_getElem (by omega)) (List.getElem?_eq_getElem hj)).1
        have hst := run_storeCells_at P mu.b (mu.base + off * b.sz + n' * b.sz) ty' vs 0 arr w e1 (by simpa using hplace) hone
        simp only [Nat.add_zero] at hst
        have hrun := append_room (P := P) (w := w) (ty := ty) hu hi htx htx' (base := some ⟨mu.b, mu.base + off * b.sz, none⟩) (n := n') (cap := cap) (hlen w) (hnew w rfl) hroom (w' := _) (by simp only [add_addr]; exact hst)
        have hclen : ((b.cells.drop (off * b.sz)).take (n' * b.sz) ++ cs).length = (n' + k) * b.sz := by rw [List.length_append, hocl, hcl, Nat.add_mul]
        have hcap' : mu.base + off * b.sz + cap * b.sz ≤ mu.asz := by rw [Nat.add_mul] at hcap; omega
        have hnk : (n' + k) * b.sz ≤ cap * b.sz := Nat.mul_le_mul_right _ hroom
        have hsl : (splice arr.toList (mu.base + off * b.sz + n' * b.sz) vs).length = arr.toList.length := by
          unfold splice; simp only [List.length_append, List.length_take, List.length_drop, Array.length_toList]; omega
        obtain ⟨k1, k2⟩ := set_ok (w' := w.setRow mu.b (splice arr.toList (mu.base + off * b.sz + n' * b.sz) vs).toArray) (k' := ⟨2, ver + 1, b.sz, (b.cells.drop (off * b.sz)).take (n' * b.sz) ++ cs⟩) (m' := ⟨mu.b, mu.base + off * b.sz, mu.asz⟩)
          hs hb hm (by simp; omega) (fun e' => by simp at e'; omega) rfl rfl rfl (by simp) (fun i _ hn => setRow_other w mu.b i _ (fun e' => hn ⟨hk2, e'⟩)) (fun _ => .inl ⟨hk2, rfl⟩) (fun e' => by simp at e')
          (fun _ => ⟨_, ty', setRow_heap w mu.b arr _ ty' _ e1, by simp only [List.size_toArray, hsl]; simpa using e2, by simp only [hclen]; omega, fun j c hj => by
            simp only [List.getElem?_toArray]
            rw [splice_get _ _ _ (by simpa using hplace)]
            rw [List.getElem?_append] at hj
            have hbl : (off + n') * b.sz ≤ b.cells.length := hfit
            rw [Nat.add_mul] at hbl
            by_cases h1 : j < n' * b.sz
            · rw [if_pos (by rw [hocl]; exact h1), List.getElem?_take_of_lt h1, List.getElem?_drop] at hj
              rw [if_pos (by omega)]
              obtain ⟨v, q1, q2, q3⟩ := e5 _ c hj
              exact ⟨v, by rw [Nat.add_assoc]; simpa using q1, q2, q3⟩
            · rw [if_neg (by rw [hocl]; exact h1), hocl] at hj
              have hlt : j - n' * b.sz < vs.length := by have := getElem?_lt hj; omega
              rw [if_neg (by omega), if_pos (by omega)]
              refine ⟨vs[j - n' * b.sz], ?_, hrep' _ c _ hj (List.getElem?_eq_getElem hlt)⟩
              rw [show mu.base + off * b.sz + j - (mu.base + off * b.sz + n' * b.sz) = j - n' * b.sz by omega, List.getElem?_eq_getElem hlt]⟩)
        exact ⟨_, _, _, _, _, _, hrun, k2, k1, .ref id (ver + 1) 0 (n' + k) _ _ _ (by rw [List.getElem?_set_self (getElem?_lt hb)]) (by rw [List.getElem?_set_self (getElem?_lt hm)]) (Nat.le_refl _) trivial
          (fun _ _ => .inr (.inl ⟨rfl, by simp only [Nat.zero_add]; omega, cap, by simp, hroom, by simp only [Nat.zero_add]; omega⟩)), h⟩
      · exact grown _ cap rfl (by omega)
    · by_cases hk : k = 0
      · subst hk
        have hvs : vs = [] := List.eq_nil_of_length_eq_zero (by simpa using hvl)
        have hcs : cs = [] := List.eq_nil_of_length_eq_zero (by simpa using hcl)
        subst hvs; subst hcs
        rw [if_neg (by omega)] at h
        obtain ⟨arr, ty', e1, e2, e3, e4, e5⟩ := hs.liv id b mu hb hm hk2
        obtain ⟨k1, k2⟩ := set_ok (w' := w) (k' := ⟨2, ver + 1, b.sz, (b.cells.drop (off * b.sz)).take (0 * b.sz) ++ []⟩) (m' := mu) hs hb hm (by simp; omega) (fun e' => by simp at e'; omega) rfl rfl rfl (Nat.le_refl _) (fun _ _ _ => rfl) (fun _ => .inl ⟨hk2, rfl⟩) (fun e' => by simp at e')
          (fun _ => ⟨arr, ty', e1, e2, by simp; omega, fun j c hj => by simp at hj⟩)
        exact ⟨.slice (some ⟨ad.1, ad.2, none⟩) 0 0, w, _, _, _, _, by simpa using append_room (P := P) (ty := ty) hu hi htx htx' (base := some ⟨ad.1, ad.2, none⟩) (n := 0) (cap := 0) (hlen w) (hnew w rfl) (by omega) (w' := w) (by simp [storeCells]), k2, k1,
          .ref id (ver + 1) 0 (0 + 0) _ _ _ (by rw [List.getElem?_set_self (getElem?_lt hb)]) (by rw [List.getElem?_set_self (getElem?_lt hm)]) (Nat.le_refl _) trivial (fun _ _ => .inr (.inr ⟨rfl, rfl, by simp, ad, rfl⟩)), h⟩
      · exact grown (some ⟨ad.1, ad.2, none⟩) 0 rfl (by omega)
  · exact h.elim

theorem wrap_i64 {n : Int} (h : -9223372036854775808 ≤ n ∧ n ≤ 9223372036854775807) : IntKind.i64.wrap n = n := by
  unfold IntKind.wrap
  simp [IntKind.bits, IntKind.signed]
  omega

theorem done_cap (hs : SOk st μ w R) {t : Nat} {x : V} {xv : Value} {ty : TypeId} (hx : RepV st μ w R x xv) (h : capW P st t x fun v => K v st) :
    ∃ val c, (Builtin.cap_ #[t] ty #[xv]).run P w = .ok val w ∧ RepV st μ w R c val ∧ K c st := by
  unfold capW at h
  split at h
  · obtain ⟨ht, h⟩ := h
    obtain ⟨e, hel⟩ := Option.isSome_iff_exists.1 ht
    refine ⟨.int .i64 0, _, ?_, .imm (.x _), h⟩
    rw [hx.x_inv]
    simp [Builtin.cap_, run_und w (el_inv hel), goInt]
  · exact h.elim

theorem zero_get (z : Array Value) (n j : Nat) (h : j < n * z.size) : (Builtin.zeroCells z n)[j]? = some (z[j % z.size]!) := by
  simp [Builtin.zeroCells, h]

theorem done_appZ (hs : SOk st μ w R) {t tx : Nat} {ty : TypeId} {s x : V} {sv xv : Value} (hsv : RepV st μ w R s sv) (hxv : RepV st μ w R x xv) (h : appZ P st t tx s x K) :
    ∃ val w' c st' μ' R', (Builtin.append_ #[t, tx] ty #[sv, xv]).run P w = .ok val w' ∧ Ext st μ w R st' μ' w' R' ∧ SOk st' μ' w' R' ∧ RepV st' μ' w' R' c val ∧ K c st' := by
  unfold appZ at h
  split at h
  · exact h.elim
  rename_i e hel
  split at h
  · exact h.elim
  rename_i sz by' ag z hi
  obtain ⟨htx, hsz, hby0, hz, hones, h⟩ := h
  have hu := el_inv hel
  have hut := intT_inv htx
  split at h
  · rename_i n
    obtain ⟨hn, hb, h⟩ := h
    have e1 := hsv.x_inv
    have e2 := hxv.x_inv
    subst e1 e2
    obtain ⟨n, rfl⟩ := Int.eq_ofNat_of_zero_le (Int.le_of_lt hn)
    have hn0 : 0 < n := by omega
    have hb : n * by' ≤ 140737488355328 := by
      have h' := hb
      rw [← Int.natCast_mul] at h'
      omega
    have hsmall : n ≤ 140737488355328 := Nat.le_trans (Nat.le_mul_of_pos_right _ hby0) hb
    obtain ⟨zv, hzr, hzl⟩ := run_zero w.drew hi
    have hzs : zv.cells.size = sz := by rw [← hz, ← hzl]; simp
    obtain ⟨i, hr, hi1, hi2, _⟩ := run_info w hi
    obtain ⟨i', hr', hi1', hi2', _⟩ := run_info w.drew hi
    have hgr := growslice_fits (need := n) (old := 0) (bytes := by') (by omega) hb
    have hw : IntKind.i64.wrap (n : Int) = n := wrap_i64 ⟨by omega, by omega⟩
    have hmax : IntKind.i64.max = 9223372036854775807 := rfl
    let newCap := n + w.tape w.drawn (.appendCap n 0 e) % (2 ^ 63 - n)
    let arr : Array Value := #[] ++ Builtin.zeroCells zv.cells n ++ Builtin.zeroCells zv.cells (newCap - n)
    have hsz' : arr.size = newCap * sz := by
      simp only [arr, Array.size_append, Builtin.zeroCells, Array.size_map, Array.size_range, hzs, List.size_toArray, List.length_nil, Nat.zero_add]
      rw [← Nat.add_mul]; congr 1; omega
    have hrun : (Builtin.append_ #[t, tx] ty #[.slice none 0 0, .int .i64 n]).run P w = .ok (.slice (some ⟨w.heap.size, 0, none⟩) n newCap) (w.drew.alloc (.cells arr e)) := by
      unfold Builtin.append_
      simp only [List.getElem?_toArray, List.getElem?_cons_zero, List.getElem?_cons_succ, Sem.run_bind, run_und w hu, run_und w hut, Result.andThen_ok, Sem.run_pure, run_size w hi]
      simp only [asInt, asIntOf, Sem.run_bind, Sem.run_pure, Result.andThen_ok, if_true, hw]
      rw [if_neg (by omega)]
      simp only [Sem.run_bind, hr, Result.andThen_ok, hi2]
      rw [if_neg (by have h' : (n : Int) * by' ≤ 140737488355328 := by rw [← Int.natCast_mul]; omega
                     omega)]
      simp only [Sem.run_bind, Sem.run_pure, Result.andThen_ok, Int.toNat_natCast, Bool.not_true, Bool.false_eq_true, if_false, Nat.zero_add]
      rw [if_neg (by omega)]
      simp only [Sem.run_bind, hr, Result.andThen_ok, hi2]
      rw [if_neg (by rw [hmax]; omega)]
      simp only [Sem.run_bind, hr, Result.andThen_ok, hi2, Sem.run_pure]
      rw [if_neg (by simp; omega)]
      have hnz : ¬ n * sz = 0 := by
        intro h0
        rcases Nat.mul_eq_zero.1 h0 with h0 | h0 <;> omega
      simp only [Sem.run_bind, hr, Result.andThen_ok, hi2, Sem.run_pure, run_choose, Question.forced, Bool.false_eq_true, if_false, Question.cut, run_askRoom, World.drew_eq, hr', hi2', run_askRoom, Builtin.firstCells, hnz, hzr, newRow, run_newObj_alloc, World.size_drew]
      rfl
    have hcl : ((List.replicate n (z.map V.x)).flatten).length = n * sz := by rw [flat_len]; simp [hz]
    obtain ⟨k1, k2, k3⟩ := row_ok (ty := e) (sz := sz) (n := n) (cap := newCap) (cells := (List.replicate n (z.map V.x)).flatten) (arr := arr) hs.drew
      (by rw [hcl, hsz']; exact Nat.mul_le_mul_right _ (by omega)) (by omega) (by omega) (by omega) (fun j c hj => by
        have hlt : j < n * sz := by have := getElem?_lt hj; omega
        rw [flat_get _ 0] at hj
        simp only [List.length_map, hz] at hj
        rw [if_pos hlt] at hj
        have hm : j % sz < z.length := by rw [hz]; exact Nat.mod_lt _ hsz
        rw [List.getElem?_map, List.getElem?_eq_getElem hm] at hj
        cases hj
        have hz1 : (Builtin.zeroCells zv.cells n)[j]? = some z[j % sz] := by
          rw [zero_get _ _ _ (by rw [hzs]; exact hlt), hzs, Array.getElem!_eq_getD, Array.getD_eq_getD_getElem?, ← Array.getElem?_toList, hzl, List.getElem?_eq_getElem hm]
          rfl
        have hone : one1 (V.x z[j % sz]) = true := ones_get hones (j % sz) _ (by rw [List.getElem?_map, List.getElem?_eq_getElem hm]; rfl)
        refine ⟨z[j % sz], ?_, one_x hone, .imm (.x _)⟩
        have hlt' : j < (Builtin.zeroCells zv.cells n).size := (Array.getElem?_eq_some_iff.1 hz1).1
        simp only [arr, Nat.zero_add, Array.empty_append]
        rw [Array.getElem?_append_left hlt']
        exact hz1)
    exact ⟨_, _, _, _, _, _, hrun, (drew_ok hs).2.trans k2, k1, k3, by simpa using h⟩
  · exact h.elim


/-! ### Lists of bytes become texts -/

theorem bytesV_vals {cs : List V} {bs : List UInt8} (h : bytesV cs = some bs) : ∃ ns : List Int, cs = ns.map (fun n => .x (.int .u8 n)) ∧ bs = ns.map fun n => UInt8.ofNat n.toNat := by
  induction cs generalizing bs with
  | nil => simp only [bytesV, Option.some.injEq] at h; subst h; exact ⟨[], rfl, rfl⟩
  | cons c r ih =>
    unfold bytesV at h
    split at h
    · rename_i e; cases e
    · rename_i n r' e
      cases e
      rw [Option.map_eq_some_iff] at h
      obtain ⟨bs', h1, rfl⟩ := h
      obtain ⟨ns, rfl, rfl⟩ := ih h1
      exact ⟨n :: ns, rfl, rfl⟩
    · cases h

theorem cvB_run (hs : SOk st μ w R) {o : Oper} {s d : Nat} {x : Operand} (ho : o.op = .convert s d x) {c : V} (hx : RepV st μ w R c (a.eval x)) (h : cvB P st s d c fun v => K v st) : Done st μ w R ((execOp a.eval o).run P w) K := by
  unfold cvB at h
  obtain ⟨hd, h⟩ := h
  split at h
  · rename_i e hel
    have hS := el_inv hel
    obtain ⟨he, h⟩ := h
    have hE := intT_inv he
    have shape : ∀ {Q : List V → Nat → Prop}, cellsOf st 1 c Q → (∀ b, c ≠ .x (.string b)) → (a.eval x = .slice none 0 0) ∨ ∃ ad n cap, a.eval x = .slice (some ad) n cap := fun {Q} hc hns => by
      unfold cellsOf at hc
      split at hc
      · rcases hx.sl_inv.sl_inv with ⟨_, e⟩ | ⟨b, off, cap, g, _, _, _, _, e⟩
        · exact .inl e
        · exact .inr ⟨_, _, _, e⟩
      · obtain ⟨k, hk, hver, hk0, _⟩ := getB_inv hc
        obtain ⟨mu, hm, hr⟩ := hx.ref_get hk hver hk0
        rcases hr with ⟨_, _, _, e⟩ | ⟨_, _, cap, e, _⟩ | ⟨_, _, _, ad, e⟩
        · exact .inl e
        · exact .inr ⟨_, _, _, e⟩
        · exact .inr ⟨_, _, _, e⟩
      · exact .inl hx.x_inv
      · exact absurd rfl (hns _)
      · exact hc.elim
    have main : (∀ b, c ≠ .x (.string b)) → (cellsOf st 1 c fun cs _ => match bytesV cs with
      | some bs => K (.x (.string ⟨bs.toArray⟩)) st
      | none => False) → Done st μ w R ((execOp a.eval o).run P w) K := fun hns h => by
      obtain ⟨cs, k, vs, hq, hlen, hfirst, hcl, hvl, hrep⟩ := cells_run (P := P) hs (by omega) hx h
      cases hb : bytesV cs with
      | none => simp [hb] at hq
      | some bs =>
        simp only [hb] at hq
        obtain ⟨ns, rfl, rfl⟩ := bytesV_vals hb
        have hvs : vs = ns.map (Value.int .u8) := by
          apply List.ext_getElem?
          intro j
          rw [List.getElem?_map]
          cases hn : ns[j]? with
          | none =>
            have : ns.length ≤ j := by simpa using hn
            rw [List.getElem?_eq_none (by simp at hcl; omega)]; rfl
          | some n =>
            have hj : j < vs.length := by have := getElem?_lt hn; simp at hcl; omega
            have h1 : (ns.map fun n => V.x (Value.int .u8 n))[j]? = some (.x (.int .u8 n)) := by rw [List.getElem?_map, hn]; rfl
            obtain ⟨_, hr⟩ := hrep j _ _ h1 (List.getElem?_eq_getElem hj)
            rw [List.getElem?_eq_getElem hj, hr.x_inv]; rfl
        refine Done.here hs (val := .string ⟨(ns.map fun n => UInt8.ofNat n.toNat).toArray⟩) ?_ (.imm (.x _)) hq
        rcases shape h hns with ex | ⟨ad, n, cap, ex⟩
        · have hk : k = 0 := by
            have := hlen w
            rw [ex] at this
            simpa [Builtin.lenOf] using this.symm
          subst hk
          have : ns = [] := by simpa using hcl
          subst this
          have h3 := run_convert_bytes_nil w s e hS hE 0 0 d hd
          simp only [execOp, ho, ex, Sem.run_bind, h3, Result.andThen_ok]
          rfl
        · have hk : n = k := by
            have := hlen w
            rw [ex] at this
            simpa [Builtin.lenOf] using this
          subst hk
          have h2 := hfirst w rfl
          rw [ex, hvs] at h2
          simp only [Builtin.firstCells, Nat.mul_one] at h2
          have h3 := run_convert_bytes_string w s d e (some ad) n cap hS hE hd
          rw [run_bytesToString w ad n cap ns h2, foldl_push_bytes] at h3
          simp only [execOp, ho, ex, Sem.run_bind, h3, Result.andThen_ok, Sem.run_pure]
          congr 4
          simp [ByteArray.empty, ByteArray.emptyWithCapacity]
          rfl
    split at h
    · exact h.elim
    · rename_i hns
      exact main hns h
  · exact h.elim

theorem done_cv (hs : SOk st μ w R) (he : REnv st μ w R ρ a.tmps) {o : Oper} {s d : Nat} {x : Operand} (ho : o.op = .convert s d x) (h : opW P ρ st (.cv s d (.of x)) K) : Done st μ w R ((execOp a.eval o).run P w) K := by
  simp only [opW] at h
  have hx := ev_rep hs he x
  split at h
  · rename_i k n hv
    rw [hv] at hx
    split at h
    · rename_i k' hk
      obtain ⟨hS, h⟩ := h
      obtain ⟨ds, hds⟩ := Option.isSome_iff_exists.1 hS
      refine Done.here hs (val := .int k' (k'.wrap n)) ?_ (.imm (.x _)) h
      simp [execOp, ho, hx.x_inv, convert, run_und w hds, run_und w (intT_inv hk), Conv.intToInt]
    · obtain ⟨hd, hS, h⟩ := h
      obtain ⟨ds, hds⟩ := Option.isSome_iff_exists.1 hS
      refine Done.here hs (val := .string (Utf8.encode n)) ?_ (.imm (.x _)) h
      simp [execOp, ho, hx.x_inv, convert, run_und w hds, run_und w hd, Conv.intToString]
  · rename_i s' hv
    rw [hv] at hx
    obtain ⟨hd, _, hS, h⟩ := h
    obtain ⟨ds, hds⟩ := Option.isSome_iff_exists.1 hS
    refine Done.here hs (val := .string s') ?_ (.imm (.x _)) h
    simp only [execOp, ho, hx.x_inv, convert, Sem.run_bind, run_und w hds, run_und w hd, Result.andThen_ok]
    cases ds <;> simp
  · exact cvB_run hs ho hx h

end ops

end Go.VS
