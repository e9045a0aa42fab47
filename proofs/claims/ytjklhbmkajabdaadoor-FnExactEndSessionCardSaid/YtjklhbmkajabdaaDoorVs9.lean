/- The runs of the model's operations: literals; every operation that is no call. -/
import Derived.Test.YtjklhbmkajabdaaDoorVs8
set_option linter.all false
namespace Go.VS
open Go Go.RowKit

theorem foldl_put (off : Nat) : ∀ (l : List Value) (n : Nat) (cs : Array Value), ((l.zipIdx n).foldl (fun cs (p : Value × Nat) => cs.setIfInBounds (off + p.2) p.1) cs).size = cs.size ∧
    (off + n + l.length ≤ cs.size → ∀ i : Nat, ((l.zipIdx n).foldl (fun cs (p : Value × Nat) => cs.setIfInBounds (off + p.2) p.1) cs)[i]? =
      if i < off + n then cs[i]? else if i < off + n + l.length then l[i - (off + n)]? else cs[i]?) := by
  intro l
  induction l with
  | nil => intro n cs; exact ⟨rfl, fun _ i => by by_cases h : i < off + n <;> simp [h]⟩
  | cons c r ih =>
    intro n cs
    simp only [List.zipIdx_cons, List.foldl_cons]
    obtain ⟨h1, h2⟩ := ih (n + 1) (cs.setIfInBounds (off + n) c)
    refine ⟨by rw [h1]; simp, fun hle i => ?_⟩
    simp only [List.length_cons] at hle ⊢
    rw [h2 (by simp; omega), Array.getElem?_setIfInBounds]
    by_cases a : i < off + n
    · rw [if_pos (by omega), if_pos a, if_neg (by omega)]
    · rw [if_neg a]
      by_cases b : i = off + n
      · subst b
        rw [if_pos (by omega), if_pos rfl, if_pos (by omega), if_pos (by omega)]
        simp
      · by_cases c' : i < off + n + (r.length + 1)
        · rw [if_neg (by omega), if_pos (by omega), if_pos c', show i - (off + n) = (i - (off + (n + 1))) + 1 by omega]
          rfl
        · rw [if_neg (by omega), if_neg (by omega), if_neg c', if_neg (by omega)]

section ops
variable {P : Program} {st : Store} {μ : List Mu} {w : World} {R : Nat → Prop} {ρ : Env} {a : Act} {K : V → Store → Prop}

/-- Cells that stand for values, one by one. -/
def Rows' (st : Store) (μ : List Mu) (w : World) (R : Nat → Prop) (cs : List V) (vs : Array Value) : Prop := cs.length = vs.size ∧ ∀ (k : Nat) c v, cs[k]? = some c → vs[k]? = some v → RepV st μ w R c v

theorem fill_ok {pl : Nat → Option (Nat × Nat)} : ∀ (ps : List (Nat × V)) (qs : List (Nat × Value)) (cs : List V) (vs : Array Value) (cs' : List V), ps.length = qs.length →
    (∀ (k : Nat) p q, ps[k]? = some p → qs[k]? = some q → p.1 = q.1 ∧ RepV st μ w R p.2 q.2) → Rows' st μ w R cs vs → fillV pl cs ps = some cs' →
    ∃ vs', Instr.fill pl vs qs = some vs' ∧ Rows' st μ w R cs' vs' := by
  intro ps
  induction ps with
  | nil =>
    intro qs cs vs cs' hl h hr hf
    have : qs = [] := List.eq_nil_of_length_eq_zero (by simpa using hl.symm)
    subst this
    simp only [fillV, Option.some.injEq] at hf
    subst hf
    exact ⟨vs, rfl, hr⟩
  | cons p r ih =>
    intro qs cs vs cs' hl h hr hf
    cases qs with
    | nil => simp at hl
    | cons q qs =>
      obtain ⟨i, v⟩ := p
      obtain ⟨j, u⟩ := q
      obtain ⟨rfl, hv⟩ := h 0 _ _ rfl rfl
      simp only at hv
      simp only [fillV] at hf
      simp only [Instr.fill]
      cases hp : pl i with
      | none => simp [hp] at hf
      | some os =>
        obtain ⟨o, s⟩ := os
        simp only [hp] at hf
        split at hf
        · rename_i hc
          obtain ⟨h1, h2, h3⟩ := hc
          obtain ⟨g1, g2⟩ := cells_rep hv h3
          have hsz : u.cells.size = s := by rw [← h1, g1]; simp
          have hfit : ¬ o + u.cells.size > vs.size := by rw [← hr.1]; omega
          simp only [hsz, ne_eq, not_true, Bool.false_or]
          have e0 : (!u.cells.size == s || decide (o + u.cells.size > vs.size)) = false := by simp [hsz]; rw [hsz] at hfit; omega
          have e : u.cells.zipIdx.foldl (fun cs (x : Value × Nat) => cs.setIfInBounds (o + x.2) x.1) vs = (u.cells.toList.zipIdx 0).foldl (fun cs (x : Value × Nat) => cs.setIfInBounds (o + x.2) x.1) vs := by
            rw [← Array.foldl_toList]; simp
          obtain ⟨q1, q2⟩ := foldl_put o u.cells.toList 0 vs
          have q2 := q2 (by simp; omega)
          obtain ⟨vs', f1, f2⟩ := ih qs (wr cs o v.cells) ((u.cells.toList.zipIdx 0).foldl (fun cs (x : Value × Nat) => cs.setIfInBounds (o + x.2) x.1) vs) cs' (by simpa using hl) (fun k p q hp hq => h (k + 1) p q (by simpa using hp) (by simpa using hq))
            ⟨by rw [wr_len, q1]; exact hr.1, fun k c x hc hx => by
              rw [q2] at hx
              rw [wr_get _ _ _ h2] at hc
              simp only [Nat.add_zero, Array.length_toList] at hx
              have hgl : v.cells.length = u.cells.size := by rw [g1]; simp
              by_cases b1 : k < o
              · rw [if_pos b1] at hc hx; exact hr.2 k c x hc hx
              · rw [if_neg b1] at hc hx
                by_cases b2 : k < o + v.cells.length
                · rw [if_pos b2] at hc
                  rw [if_pos (by omega)] at hx
                  exact (g2 _ c x hc hx).2
                · rw [if_neg b2] at hc
                  rw [if_neg (by omega)] at hx
                  exact hr.2 k c x hc hx⟩ hf
          refine ⟨vs', ?_, f2⟩
          rw [← f1, ← e]
          rw [if_neg (by rw [hsz] at hfit; simp [hsz]; omega)]
        · cases hf

theorem fillV_len {pl : Nat → Option (Nat × Nat)} {ps : List (Nat × V)} : ∀ {cs cs' : List V}, fillV pl cs ps = some cs' → cs'.length = cs.length := by
  induction ps with
  | nil => intro cs cs' h; simp only [fillV, Option.some.injEq] at h; rw [h]
  | cons p r ih =>
    intro cs cs' h
    obtain ⟨i, v⟩ := p
    simp only [fillV] at h
    split at h
    · cases h
    · split at h
      · rw [ih h, wr_len]
      · cases h

theorem evps_get (ps : List (Nat × A)) (k : Nat) : (evps ρ ps)[k]? = (ps[k]?).map fun p => (p.1, ev ρ p.2) := by
  induction ps generalizing k with
  | nil => simp [evps]
  | cons x r ih => cases k with
    | zero => simp [evps]
    | succ k => simpa [evps] using ih k

theorem evps_len (ps : List (Nat × A)) : (evps ρ ps).length = ps.length := by
  induction ps with
  | nil => rfl
  | cons x r ih => simp [evps, ih]

theorem evps_rep (hs : SOk st μ w R) (he : REnv st μ w R ρ a.tmps) (ps : List (Nat × Operand)) : ∀ (k : Nat) p q, (evps ρ (ps.map fun p => (p.1, A.of p.2)))[k]? = some p → (ps.map fun p => (p.1, a.eval p.2))[k]? = some q → p.1 = q.1 ∧ RepV st μ w R p.2 q.2 := by
  intro k p q hp hq
  rw [evps_get, List.getElem?_map] at hp
  rw [List.getElem?_map] at hq
  cases hx : ps[k]? with
  | none => simp [hx] at hq
  | some x => simp [hx] at hp hq; subst hp; subst hq; exact ⟨rfl, ev_rep hs he x.2⟩

theorem zeros_rows (z : List Value) (zv : Value) (h : zv.cells.toList = z) : Rows' st μ w R (z.map V.x) zv.cells := by
  subst h
  refine ⟨by simp, fun k c v hc hv => ?_⟩
  rw [List.getElem?_map] at hc
  rw [Array.getElem?_toList, hv] at hc
  cases hc
  exact .imm (.x _)

theorem mapM_places : ∀ (fs : List Field) (L : List (Nat × Nat)), (fs.mapM fun f => (inf P f.type).map fun q => (f.offset, q.1)) = some L →
    (fs.mapM (fun f => (do pure (f.offset, ← sizeOf f.type) : Sem (Nat × Nat)))).run P w = .ok L w := by
  intro fs
  induction fs with
  | nil => intro L h; simp at h; subst h; simp
  | cons f r ih =>
    intro L h
    simp only [List.mapM_cons] at h
    cases hi : inf P f.type with
    | none => simp [hi] at h
    | some q =>
      obtain ⟨n, by', ag, z⟩ := q
      cases hr : (r.mapM fun f => (inf P f.type).map fun q => (f.offset, q.1)) with
      | none => simp [hi, hr] at h
      | some L' =>
        simp only [hi, hr, Option.map_some] at h
        cases h
        simp only [List.mapM_cons, Sem.run_bind, run_size w hi, Result.andThen_ok, Sem.run_pure, ih L' hr]

theorem done_bd (hs : SOk st μ w R) (he : REnv st μ w R ρ a.tmps) {o : Oper} {t : Nat} {ps : Array (Nat × Operand)} (ho : o.op = .build t ps) (h : opW P ρ st (.bd t (ps.toList.map fun p => (p.1, .of p.2))) K) : Done st μ w R ((execOp a.eval o).run P w) K := by
  simp only [opW] at h
  split at h
  · rename_i n by' ag z hi
    split at h
    · rename_i L hL
      split at h
      · rename_i cs hcs
        obtain ⟨zv, hz, hzl⟩ := run_zero w hi
        unfold flds at hL
        split at hL
        · rename_i fs hu
          obtain ⟨vs', f1, f2⟩ := fill_ok (st := st) (μ := μ) (w := w) (R := R) _ (ps.toList.map fun p => (p.1, a.eval p.2)) _ zv.cells cs (by simp [evps_len]) (evps_rep hs he ps.toList) (zeros_rows z zv hzl) hcs
          have hm := mapM_places (P := P) (w := w) fs.toList L hL
          refine Done.here hs (val := .agg vs'.toList.toArray) ?_ (.agg cs vs'.toList (by simpa using f2.1) (fun k c v hc hv => f2.2 k c v hc (by simpa using hv))) h
          have hpl : ((ps.map fun (i, x) => (i, a.eval x)).toList) = ps.toList.map fun p => (p.1, a.eval p.2) := by simp
          have hma : (fs.mapM (fun f => (do pure (f.offset, ← sizeOf f.type) : Sem (Nat × Nat)))).run P w = .ok L.toArray w := by
            rw [Array.mapM_eq_mapM_toList]
            simp only [Sem.run_map, hm, Result.andThen_ok]
          simp only [execOp, ho, Instr.build, Sem.run_bind, hz, Result.andThen_ok, run_und w hu, hma, hpl]
          simp [f1]
        · cases hL
      · exact h.elim
    · exact h.elim
  · exact h.elim

theorem done_bs (hs : SOk st μ w R) (he : REnv st μ w R ρ a.tmps) {o : Oper} {t n : Nat} {ps : Array (Nat × Operand)} (ho : o.op = .buildSlice t n ps) (h : opW P ρ st (.bs t n (ps.toList.map fun p => (p.1, .of p.2))) K) : Done st μ w R ((execOp a.eval o).run P w) K := by
  simp only [opW] at h
  split at h
  · rename_i e hel
    have hu := el_inv hel
    split at h
    · rename_i sz by' ag z hi
      obtain ⟨hz, hb, h⟩ := h
      split at h
      · rename_i cs hcs
        obtain ⟨hones, h⟩ := h
        obtain ⟨zv, hzr, hzl⟩ := run_zero w hi
        have hzs : zv.cells.size = sz := by rw [← hz, ← hzl]; simp
        obtain ⟨cells, hcells, hrows⟩ : ∃ cells : Array Value, ((if n * sz = 0 then pure #[] else do pure (← zeroValue e).cells : Sem (Array Value)).run P w = .ok (if n * sz = 0 then #[] else zv.cells) w) ∧
            Rows' st μ w R ((List.replicate n (z.map V.x)).flatten) ((Array.range (n * sz)).map ((if n * sz = 0 then #[] else zv.cells)[· % (if n * sz = 0 then #[] else zv.cells).size]!)) ∧ cells = #[] := by
          refine ⟨#[], ?_, ?_, rfl⟩
          · by_cases h0 : n * sz = 0
            · simp [h0]
            · simp [h0, hzr]
          · refine ⟨by rw [flat_len]; simp [hz], fun k c v hc hv => ?_⟩
            rw [flat_get _ 0] at hc
            split at hc
            · rename_i hlt
              simp only [List.length_map, hz] at hlt hc
              have h0 : n * sz ≠ 0 := by omega
              simp only [h0, if_false] at hv
              have hsz : 0 < sz := by
                rcases Nat.eq_zero_or_pos sz with h' | h'
                · simp [h'] at h0
                · exact h'
              have hm : k % sz < z.length := by rw [hz]; exact Nat.mod_lt _ hsz
              rw [List.getElem?_map, List.getElem?_eq_getElem hm] at hc
              cases hc
              simp only [Array.getElem?_map, Array.getElem?_range, hlt, if_true, Option.map_some, Option.some.injEq] at hv
              subst hv
              have : zv.cells[k % zv.cells.size]! = z[k % sz] := by
                rw [hzs, Array.getElem!_eq_getD, Array.getD_eq_getD_getElem?, ← Array.getElem?_toList, hzl, List.getElem?_eq_getElem hm]
                rfl
              rw [this]
              exact .imm (.x _)
            · cases hc
        obtain ⟨hrows, rfl⟩ := hrows
        obtain ⟨vs', f1, f2⟩ := fill_ok (st := st) (μ := μ) (w := w) (R := R) _ (ps.toList.map fun p => (p.1, a.eval p.2)) _ _ cs (by simp [evps_len]) (evps_rep hs he ps.toList) hrows hcs
        have hcl : cs.length = n * sz := by rw [fillV_len hcs, flat_len]; simp [hz]
        obtain ⟨k1, k2, k3⟩ := row_ok (ty := e) (sz := sz) (n := n) (cap := n) hs (cells := cs) (arr := vs') (by rw [f2.1]; omega) (by omega) (by omega) (by rw [← f2.1]; omega)
          (fun j c hj => by
            have hlt : j < vs'.size := by rw [← f2.1]; exact getElem?_lt hj
            have := f2.2 j c vs'[j] hj (Array.getElem?_eq_getElem hlt)
            exact ⟨vs'[j], Array.getElem?_eq_getElem hlt, one_of this (ones_get hones j c hj), this⟩)
        refine ⟨_, _, _, _, _, _, .inl ?_, k2, k1, k3, h⟩
        have hpl : ((ps.map fun (i, x) => (i, a.eval x)).toList) = ps.toList.map fun p => (p.1, a.eval p.2) := by simp
        simp only [execOp, ho, Instr.buildSlice, Sem.run_bind, run_und w hu, Result.andThen_ok, run_size w hi]
        rw [if_neg (by simp; omega)]
        by_cases h0 : n * sz = 0
        · simp only [h0, if_true] at f1 ⊢
          simp only [Sem.run_bind, Sem.run_pure, Result.andThen_ok, hpl]
          rw [f1]
          simp [newRow]
        · simp only [h0, if_false] at f1 ⊢
          simp only [Sem.run_bind, Sem.run_pure, Result.andThen_ok, hpl, hzr]
          rw [f1]
          simp [newRow]
      · exact h.elim
    · exact h.elim
  · exact h.elim

end ops

end Go.VS
