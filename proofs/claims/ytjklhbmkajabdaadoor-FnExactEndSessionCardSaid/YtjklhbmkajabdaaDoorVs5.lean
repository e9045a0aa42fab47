/- The runs of the model's operations, one by one. -/
import Derived.Test.YtjklhbmkajabdaaDoorVs4
set_option linter.all false
namespace Go.VS
open Go Go.RowKit

section ops
variable {P : Program} {st : Store} {μ : List Mu} {w : World} {R : Nat → Prop} {ρ : Env} {a : Act} {K : V → Store → Prop}

theorem done_mv (hs : SOk st μ w R) (he : REnv st μ w R ρ a.tmps) {o : Oper} {x : Operand} (ho : o.op = .move x ∨ o.op = .assign x) (h : opW P ρ st (.mv (.of x)) K) :
    Done st μ w R ((execOp a.eval o).run P w) K := by
  refine Done.here hs (val := a.eval x) ?_ (ev_rep hs he x) h
  rcases ho with ho | ho <;> simp [execOp, ho]

theorem sel_rep {t : Bool} {x y : V} {u v : Value} (hx : RepV st μ w R x u) (hy : RepV st μ w R y v) : RepV st μ w R (sel t x y) (if t then u else v) := by
  unfold sel
  split
  · rw [hx.x_inv, hy.x_inv]; cases t <;> exact .imm (.x _)
  · cases t
    · exact hy
    · exact hx

theorem done_pk (hs : SOk st μ w R) (he : REnv st μ w R ρ a.tmps) {o : Oper} {c x y : Operand} (ho : o.op = .pick c x y) (h : opW P ρ st (.pk (.of c) (.of x) (.of y)) K) :
    Done st μ w R ((execOp a.eval o).run P w) K := by
  simp only [opW] at h
  split at h
  · rename_i t ht
    have hc := ev_rep hs he c
    rw [ht] at hc
    refine Done.here hs (val := if t then a.eval x else a.eval y) ?_ (sel_rep (ev_rep hs he x) (ev_rep hs he y)) h
    simp [execOp, ho, hc.x_inv, asBool]
  · exact h.elim

theorem done_new (hs : SOk st μ w R) {r : Result Next} {cells : List V} {arr : Array Value} {ty sz : Nat} (hr : r = .ok (.value (.pointer (some ⟨w.heap.size, 0, none⟩))) (w.alloc (.cells arr ty)))
    (hl : cells.length = arr.size) (hc : ∀ (j : Nat) c v, cells[j]? = some c → arr.toList[j]? = some v → one v ∧ RepV st μ w R c v) (h : K (.ptr st.length 0 0) (st ++ [⟨2, 0, sz, cells⟩])) :
    Done st μ w R r K := by
  obtain ⟨h1, h2⟩ := push_ok hs 0 sz 0 cells arr ty (by omega) (fun j c hj => by
    have hj' : j < arr.toList.length := by have := getElem?_lt hj; simp; omega
    obtain ⟨g1, g2⟩ := hc j c arr.toList[j] hj (List.getElem?_eq_getElem hj')
    exact ⟨arr.toList[j], by rw [← Array.getElem?_toList]; simp [List.getElem?_eq_getElem hj'], g1, g2⟩)
  refine ⟨_, _, _, _, _, _, .inl hr, h2, h1, ?_, h⟩
  refine .ptr _ _ _ ⟨2, 0, sz, cells⟩ ⟨w.heap.size, 0, arr.size⟩ _ (by simp) (by rw [← hs.len]; simp) (Nat.le_refl _) trivial (fun _ _ => ⟨rfl, rfl⟩)

theorem done_al (hs : SOk st μ w R) {o : Oper} {t : Nat} (ho : o.op = .alloc t) (h : opW P ρ st (.al t) K) : Done st μ w R ((execOp a.eval o).run P w) K := by
  simp only [opW] at h
  split at h
  · rename_i n by' ag z hi
    obtain ⟨h1, h⟩ := h
    obtain ⟨zv, hz, rfl⟩ := run_zero w hi
    refine done_new hs (arr := zv.cells) (ty := t) ?_ (by simp) (fun j c v hj hv => ?_) h
    · simp [execOp, ho, Instr.alloc, hz, newVar, newRow]
    · rw [List.getElem?_map, hv] at hj
      cases hj
      have := ones_get h1 j _ (by rw [List.getElem?_map, hv]; rfl)
      exact ⟨one_x this, .imm (.x _)⟩
  · exact h.elim

theorem done_bx (hs : SOk st μ w R) (he : REnv st μ w R ρ a.tmps) {o : Oper} {t : Nat} {x : Operand} (ho : o.op = .box t x) (h : opW P ρ st (.bx t (.of x)) K) : Done st μ w R ((execOp a.eval o).run P w) K := by
  obtain ⟨h1, h⟩ := h
  obtain ⟨g1, g2⟩ := cells_rep (ev_rep hs he x) h1
  refine done_new hs (arr := (a.eval x).cells) (ty := t) ?_ (by simpa using g1) g2 h
  simp [execOp, ho, Instr.box, newVar, newRow]

theorem cell_of {b o : Nat} {arr : Array Value} {ty : TypeId} {fr : Nat × Nat} (h : w.heap[b]? = some (.cells arr ty fr)) : w.cell? ⟨b, o, none⟩ = arr[o]? := by
  simp [World.cell?, h]

theorem rng_get (f : Nat → V) : ∀ (n j i : Nat), (rng f j n)[i]? = if i < n then some (f (j + i)) else none := by
  intro n
  induction n with
  | zero => intro j i; simp [rng]
  | succ n ih =>
    intro j i
    cases i with
    | zero => simp [rng]
    | succ i =>
      rw [rng, List.getElem?_cons_succ, ih]
      by_cases h : i < n
      · rw [if_pos h, if_pos (by omega)]; congr 2; omega
      · rw [if_neg h, if_neg (by omega)]

theorem rng_len (f : Nat → V) : ∀ (n j : Nat), (rng f j n).length = n := by
  intro n
  induction n with
  | zero => intro j; rfl
  | succ n ih => intro j; rw [rng, List.length_cons, ih]

theorem ld_core (hs : SOk st μ w R) (he : REnv st μ w R ρ a.tmps) {t : Nat} {x : Operand} (h : opW P ρ st (.ld t (.of x)) K) : ∃ val c, (Instr.loadAt t (a.eval x)).run P w = .ok val w ∧ RepV st μ w R c val ∧ K c st := by
  simp only [opW] at h
  split at h
  · rename_i n by' ag z hi
    have hx := ev_rep hs he x
    split at h
    · rename_i m sz f i j hv
      rw [hv] at hx
      obtain ⟨b, off, g, hR, hi', hg, hf, e⟩ := hx.ip_inv
      cases ag with
      | true =>
        simp only [if_true] at h
        obtain ⟨h1, h⟩ := h
        have hrun := run_loadCells (P := P) w ⟨b, off + i * sz + j, none⟩ n (fun k => g i (j + k)) (fun k hk => by
          rw [add_addr, show off + i * sz + j + k = off + i * sz + (j + k) by omega]
          exact (hg i (j + k) hi' (by omega)).1)
        refine ⟨.agg ((List.range n).map fun k => g i (j + k)).toArray, _, ?_, ?_, h⟩
        · simp [Instr.loadAt, Instr.sureAddr, e, loadVar, run_agg w hi, run_size w hi, hrun]
        · refine .imm (.agg _ _ (by simp [rng_len]) (fun k c v hc hv => ?_))
          rw [rng_get] at hc
          split at hc
          · cases hc
            rename_i hk
            rw [List.getElem?_map, List.getElem?_range hk] at hv
            cases hv
            exact hf i (j + k) hi' (by omega)
          · cases hc
      | false =>
        simp only [Bool.false_eq_true, if_false] at h
        obtain ⟨h1, h⟩ := h
        refine ⟨g i j, _, ?_, .imm (hf i j hi' h1), h⟩
        simp [Instr.loadAt, Instr.sureAddr, e, loadVar, run_agg w hi, (hg i j hi' h1).1]
    · rename_i id ver off hv
      rw [hv] at hx
      obtain ⟨k, hk, hver, h0, h⟩ := getB_inv h
      obtain ⟨mu, hm, h2, e⟩ := hx.ptr_get hk hver h0
      obtain ⟨arr, ty, e1, e2, e3, e4, e5⟩ := hs.liv id k mu hk hm h2
      cases ag with
      | true =>
        simp only [if_true] at h
        obtain ⟨h1, h⟩ := h
        have hget : ∀ j, j < n → ∃ c v, k.cells[off + j]? = some c ∧ arr[mu.base + (off + j)]? = some v ∧ RepV st μ w R c v := fun j hj => by
          obtain ⟨v, g1, _, g3⟩ := e5 (off + j) k.cells[off + j] (List.getElem?_eq_getElem (by omega))
          exact ⟨_, v, List.getElem?_eq_getElem (by omega), g1, g3⟩
        have hrun := run_loadCells (P := P) w ⟨mu.b, mu.base + off, none⟩ n (fun j => arr.getD (mu.base + (off + j)) undef) (fun j hj => by
          rw [add_addr, cell_of e1]
          obtain ⟨c, v, _, g2, _⟩ := hget j hj
          rw [show mu.base + off + j = mu.base + (off + j) by omega, g2, Array.getD_eq_getD_getElem?, g2]; rfl)
        refine ⟨.agg ((List.range n).map fun j => arr.getD (mu.base + (off + j)) undef).toArray, _, ?_, ?_, h⟩
        · simp [Instr.loadAt, Instr.sureAddr, e, loadVar, run_agg w hi, run_size w hi, hrun]
        · refine .agg _ _ (by simp; omega) (fun j c v hc hv => ?_)
          have hj : j < n := by have := getElem?_lt hc; simp at this; omega
          rw [List.getElem?_take_of_lt hj, List.getElem?_drop] at hc
          rw [List.getElem?_map, List.getElem?_range hj] at hv
          cases hv
          obtain ⟨c', v', g1, g2, g3⟩ := hget j hj
          rw [g1] at hc; cases hc
          show RepV st μ w R c (arr.getD (mu.base + (off + j)) undef)
          rw [Array.getD_eq_getD_getElem?, g2]
          exact g3
      | false =>
        simp only [Bool.false_eq_true, if_false] at h
        split at h
        · rename_i c hc
          obtain ⟨v, g1, g2, g3⟩ := e5 off c hc
          refine ⟨v, _, ?_, g3, h⟩
          simp [Instr.loadAt, Instr.sureAddr, e, loadVar, run_agg w hi, cell_of e1, g1]
        · exact h.elim
    · exact h.elim
  · exact h.elim

theorem done_ld (hs : SOk st μ w R) (he : REnv st μ w R ρ a.tmps) {o : Oper} {t : Nat} {x : Operand} (ho : o.op = .load t x) (h : opW P ρ st (.ld t (.of x)) K) : Done st μ w R ((execOp a.eval o).run P w) K := by
  obtain ⟨val, c, h1, h2, h3⟩ := ld_core hs he h
  exact Done.here hs (val := val) (by simp [execOp, ho, h1]) h2 h3

theorem done_st (hs : SOk st μ w R) (he : REnv st μ w R ρ a.tmps) {o : Oper} {t : Nat} {x y : Operand} (ho : o.op = .store t x y) (h : opW P ρ st (.st t (.of x) (.of y)) K) : Done st μ w R ((execOp a.eval o).run P w) K := by
  simp only [opW] at h
  split at h
  · rename_i n by' ag z hi
    have hx := ev_rep hs he x
    split at h
    · rename_i id ver off hv
      rw [hv] at hx
      obtain ⟨k, hk, hver, h0, hl, hfit, hones, h⟩ := getB_inv h
      obtain ⟨mu, hm, h2, e⟩ := hx.ptr_get hk hver h0
      obtain ⟨arr, ty, e1, e2, e3, e4, e5⟩ := hs.liv id k mu hk hm h2
      obtain ⟨g1, g2⟩ := cells_rep (ev_rep hs he y) hones
      have hsz : (a.eval y).cells.size = n := by rw [← hl, g1]; simp
      have hone : ∀ v ∈ (a.eval y).cells.toList, v.oneCell' = true := fun v hv => by
        obtain ⟨j, hj, rfl⟩ := List.mem_iff_getElem.1 hv
        have : j < (ev ρ (A.of y)).cells.length := by omega
        exact one_cell (g2 j _ _ (List.getElem?_eq_getElem this) (List.getElem?_eq_getElem hj)).1
      have hst := run_storeCells_at P mu.b (mu.base + off) ty (a.eval y).cells.toList 0 arr w e1 (by simp [hsz]; omega) hone
      simp only [Nat.add_zero] at hst
      have hlen : mu.base + off + (a.eval y).cells.toList.length ≤ arr.toList.length := by simp [hsz]; omega
      refine ⟨undef, w.setRow mu.b (splice arr.toList (mu.base + off) (a.eval y).cells.toList).toArray, .bad, st.set id { k with cells := wr k.cells off (ev ρ (A.of y)).cells }, μ.set id mu, R, .inr ⟨?_, rfl⟩, ?_⟩
      · simp only [execOp, ho, Instr.storeAt, Instr.sureAddr, e, storeVar, Sem.run_bind, Sem.run_pure, Result.andThen_ok, run_size w hi, hsz, ne_eq, not_true, if_false]
        simp [hst, splice]
      · have hmu : μ.set id mu = μ := by
          apply List.ext_getElem?
          intro i
          rw [List.getElem?_set]
          split
          · rename_i e'; subst e'; rw [hm, if_pos (getElem?_lt hm)]
          · rfl
        obtain ⟨k1, k2⟩ := set_ok (w' := w.setRow mu.b (splice arr.toList (mu.base + off) (a.eval y).cells.toList).toArray) (k' := { k with cells := wr k.cells off (ev ρ (A.of y)).cells }) (m' := mu) hs hk hm (Nat.le_refl _)
          (fun _ _ => ⟨rfl, rfl, by simp [wr_len], rfl⟩) rfl rfl rfl (by simp) (fun b _ hn => setRow_other w mu.b b _ (fun e' => hn ⟨h2, e'⟩)) (fun _ => .inl ⟨h2, rfl⟩) (fun h1 => by simp [h2] at h1)
          (fun _ => ⟨_, ty, setRow_heap w mu.b arr _ ty _ e1, by
              have : (splice arr.toList (mu.base + off) (a.eval y).cells.toList).length = arr.toList.length := by
                unfold splice; simp only [List.length_append, List.length_take, List.length_drop]; omega
              simpa [this] using e2, by simpa [wr_len] using e3, fun j c hj => by
            simp only [List.getElem?_toArray]
            rw [splice_get _ _ _ hlen]
            rw [wr_get _ _ _ (by omega)] at hj
            by_cases c1 : j < off
            · rw [if_pos c1] at hj
              rw [if_pos (by omega)]
              obtain ⟨v, q1, q2, q3⟩ := e5 j c hj
              exact ⟨v, by simpa using q1, q2, q3⟩
            · rw [if_neg c1] at hj
              rw [if_neg (by omega)]
              by_cases c2 : j < off + (ev ρ (A.of y)).cells.length
              · rw [if_pos c2] at hj
                rw [if_pos (by omega)]
                have hj' : j - off < (a.eval y).cells.toList.length := by omega
                refine ⟨_, ?_, g2 (j - off) c _ hj (List.getElem?_eq_getElem hj')⟩
                rw [show mu.base + j - (mu.base + off) = j - off by omega, List.getElem?_eq_getElem hj']
              · rw [if_neg c2] at hj
                rw [if_neg (by omega)]
                obtain ⟨v, q1, q2, q3⟩ := e5 j c hj
                exact ⟨v, by simpa using q1, q2, q3⟩⟩)
        exact ⟨k2, k1, .bad _, h⟩
    · exact h.elim
  · exact h.elim

end ops

end Go.VS
