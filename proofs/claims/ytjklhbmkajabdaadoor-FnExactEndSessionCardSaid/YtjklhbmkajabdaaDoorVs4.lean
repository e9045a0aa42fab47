/- The runs of the model's operations, one by one. -/
import Derived.Test.YtjklhbmkajabdaaDoorVs3
set_option linter.all false
namespace Go.VS
open Go Go.RowKit

section types
variable {P : Program} {t n by' : Nat} {ag : Bool} {z : List Value} (w : World)

theorem inf_inv (h : inf P t = some (n, by', ag, z)) : ∃ i d zv, P.info? t = some i ∧ P.underlying t = some d ∧ i.zero = some zv ∧ i.size = n ∧ i.bytes = by' ∧
    (match d with | .struct _ => true | .array .. => true | _ => false) = ag ∧ zv.cells.toList = z := by
  unfold inf at h
  split at h
  · rename_i i d hi hd
    split at h
    · rename_i zv hz
      simp only [Option.some.injEq, Prod.mk.injEq] at h
      exact ⟨i, d, zv, hi, hd, hz, h.1, h.2.1, h.2.2.1, h.2.2.2⟩
    · cases h
  · cases h

theorem run_info (h : inf P t = some (n, by', ag, z)) : ∃ i, (typeInfo t).run P w = .ok i w ∧ i.size = n ∧ i.bytes = by' ∧ ∃ zv, i.zero = some zv ∧ zv.cells.toList = z := by
  obtain ⟨i, d, zv, hi, hd, hz, h1, h2, h3, h4⟩ := inf_inv h
  exact ⟨i, by simp [typeInfo, hi], h1, h2, zv, hz, h4⟩

theorem run_size (h : inf P t = some (n, by', ag, z)) : (sizeOf t).run P w = .ok n w := by
  obtain ⟨i, h1, h2, _⟩ := run_info w h
  simp [sizeOf, h1, h2]

theorem run_und {d : TypeDesc} (h : P.underlying t = some d) : (underlying t).run P w = .ok d w := by simp [underlying, h]

theorem run_agg (h : inf P t = some (n, by', ag, z)) : (isAgg t).run P w = .ok ag w := by
  obtain ⟨i, d, zv, hi, hd, hz, h1, h2, h3, h4⟩ := inf_inv h
  rw [← h3]
  simp only [isAgg, Sem.run_bind, run_und w hd, Result.andThen_ok]
  cases d <;> rfl

theorem run_zero (h : inf P t = some (n, by', ag, z)) : ∃ zv, (zeroValue t).run P w = .ok zv w ∧ zv.cells.toList = z := by
  obtain ⟨i, h1, _, _, zv, h2, h3⟩ := run_info w h
  exact ⟨zv, by simp [zeroValue, h1, h2], h3⟩

theorem el_inv {e : Nat} (h : el P t = some e) : P.underlying t = some (.slice e) := by
  unfold el at h
  split at h
  · rename_i e' he; cases h; exact he
  · cases h

theorem arr_inv {m e : Nat} (h : arr P t = some (m, e)) : P.underlying t = some (.array m e) := by
  unfold arr at h
  split at h
  · rename_i a b he; cases h; exact he
  · cases h

theorem fo_inv {k o ft : Nat} (h : fo P t k = some (o, ft)) : ∃ fs f, P.underlying t = some (.struct fs) ∧ fs[k]? = some f ∧ f.offset = o ∧ f.type = ft := by
  unfold fo at h
  split at h
  · rename_i fs he
    cases hf : fs[k]? with
    | none => simp [hf] at h
    | some f => simp [hf] at h; exact ⟨fs, f, he, hf, h.1, h.2⟩
  · cases h

theorem intT_inv {k : IntKind} (h : intT P t = some k) : P.underlying t = some (.int k) := by
  unfold intT at h
  split at h
  · rename_i k' he; cases h; exact he
  · cases h
end types

/-- Where a value list lies over another. -/
def splice {α : Type} (l : List α) (o : Nat) (vs : List α) : List α := l.take o ++ vs ++ l.drop (o + vs.length)

theorem splice_get {α : Type} (l : List α) (o : Nat) (vs : List α) (h : o + vs.length ≤ l.length) (i : Nat) :
    (splice l o vs)[i]? = if i < o then l[i]? else if i < o + vs.length then vs[i - o]? else l[i]? := by
  unfold splice
  have h1 : (l.take o).length = o := by simp; omega
  rw [List.getElem?_append, List.getElem?_append]
  simp only [List.length_append, h1]
  by_cases a : i < o
  · rw [if_pos (by omega), if_pos a, if_pos a, List.getElem?_take_of_lt a]
  · rw [if_neg a, if_neg a]
    by_cases b : i < o + vs.length
    · rw [if_pos b, if_pos b]
    · rw [if_neg b, if_neg b, List.getElem?_drop]
      congr 1; omega

theorem wr_get : ∀ (cs l : List V) (o : Nat), o + cs.length ≤ l.length → ∀ i : Nat, (wr l o cs)[i]? = if i < o then l[i]? else if i < o + cs.length then cs[i - o]? else l[i]? := by
  intro cs
  induction cs with
  | nil => intro l o h i; simp only [wr, List.length_nil, Nat.add_zero]; split <;> rfl
  | cons c r ih =>
    intro l o h i
    simp only [List.length_cons] at h
    rw [wr, ih _ _ (by simp; omega), List.getElem?_set]
    simp only [List.length_cons]
    by_cases a : i < o
    · rw [if_pos (by omega), if_pos a, if_neg (by omega)]
    · by_cases b : i = o
      · subst b
        simp; omega
      · by_cases c' : i < o + 1 + r.length
        · rw [if_neg (by omega), if_pos c', if_neg a, if_pos (by omega), show i - o = (i - (o + 1)) + 1 by omega]
          rfl
        · rw [if_neg (by omega), if_neg c', if_neg a, if_neg (by omega), if_neg (by omega)]

theorem wr_len : ∀ (cs l : List V) (o : Nat), (wr l o cs).length = l.length := by
  intro cs
  induction cs with
  | nil => intro l o; rfl
  | cons c r ih => intro l o; rw [wr, ih]; simp

theorem ones_get {cs : List V} (h : ones cs = true) : ∀ (k : Nat) c, cs[k]? = some c → one1 c = true := by
  induction cs with
  | nil => intro k c hc; simp at hc
  | cons a r ih =>
    simp only [ones, Bool.and_eq_true] at h
    intro k c hc
    cases k with
    | zero => simp at hc; subst hc; exact h.1
    | succ k => exact ih h.2 k c (by simpa using hc)

theorem one_x {v : Value} (h : one1 (.x v) = true) : one v := by cases v <;> simp_all [one1, one]

theorem add_addr (b o n : Nat) : (⟨b, o, none⟩ : Addr).add n = ⟨b, o + n, none⟩ := by
  unfold Addr.add; split <;> simp_all

theorem one_cell {v : Value} (h : one v) : v.oneCell' = true := by cases v <;> first | rfl | exact h.elim

theorem one_cells {v : Value} (h : one v) : v.cells = #[v] := by cases v <;> first | rfl | exact h.elim

/-- What an operation that is no call has done. -/
def Done (st : Store) (μ : List Mu) (w : World) (R : Nat → Prop) (r : Result Next) (K : V → Store → Prop) : Prop :=
  ∃ val w' c st' μ' R', (r = .ok (.value val) w' ∨ (r = .ok .skip w' ∧ val = undef)) ∧ Ext st μ w R st' μ' w' R' ∧ SOk st' μ' w' R' ∧ RepV st' μ' w' R' c val ∧ K c st'

def REnv (st : Store) (μ : List Mu) (w : World) (R : Nat → Prop) (ρ : Env) (tmps : Array Value) : Prop := ∀ k, RepV st μ w R (lk ρ k) (tmps.getD k undef)

section ops
variable {P : Program} {st : Store} {μ : List Mu} {w : World} {R : Nat → Prop} {ρ : Env} {a : Act}

theorem Done.here {K : V → Store → Prop} {r : Result Next} (hs : SOk st μ w R) {c : V} {val : Value} (hr : r = .ok (.value val) w) (hc : RepV st μ w R c val) (hK : K c st) : Done st μ w R r K :=
  ⟨val, w, c, st, μ, R, .inl hr, Ext.refl _ _ _ _, hs, hc, hK⟩

theorem cvv_rep (v : Value) : RepV st μ w R (cvv v) v := by
  cases v <;> first
    | exact .imm (.x _)
    | (rename_i cs
       refine .imm ?_
       have := RepI.agg (w := w) (R := R) (cs.toList.map V.x) cs.toList (by simp) (fun k c v hc hv => by
         rw [List.getElem?_map, hv] at hc
         cases hc
         exact .x _)
       simpa [cvv] using this)

theorem ev_rep (hs : SOk st μ w R) (h : REnv st μ w R ρ a.tmps) (x : Operand) : RepV st μ w R (ev ρ (A.of x)) (a.eval x) := by
  cases x with
  | tmp t => exact h t
  | const v => exact cvv_rep v
  | global g =>
    show RepV st μ w R ((glk globs g).getD _) _
    cases hg : glk globs g with
    | none => exact .imm (.x _)
    | some c => exact .imm (hs.glob g c hg)
  | func f => exact .imm (RepI.fn (.func f) [] [] rfl (fun k c v hc _ => by simp at hc))

theorem evs_get (as : List A) (k : Nat) : (evs ρ as)[k]? = (as[k]?).map (ev ρ) := by
  induction as generalizing k with
  | nil => simp [evs]
  | cons x r ih => cases k with
    | zero => simp [evs]
    | succ k => simpa [evs] using ih k

theorem evs_len (as : List A) : (evs ρ as).length = as.length := by
  induction as with
  | nil => rfl
  | cons x r ih => simp [evs, ih]

theorem evs_rep (hs : SOk st μ w R) (h : REnv st μ w R ρ a.tmps) (xs : List Operand) : ∀ (k : Nat) c v, (evs ρ (xs.map A.of))[k]? = some c → (xs.map a.eval)[k]? = some v → RepV st μ w R c v := by
  intro k c v hc hv
  rw [evs_get, List.getElem?_map] at hc
  rw [List.getElem?_map] at hv
  cases hx : xs[k]? with
  | none => simp [hx] at hv
  | some x => simp [hx] at hc hv; subst hc; subst hv; exact ev_rep hs h x

theorem cells_rep {c : V} {v : Value} (h : RepV st μ w R c v) (h1 : ones c.cells = true) : c.cells.length = v.cells.toList.length ∧ ∀ (k : Nat) d u, c.cells[k]? = some d → v.cells.toList[k]? = some u → one u ∧ RepV st μ w R d u := by
  have base : ∀ d : V, d.cells = [d] → one1 d = true → RepV st μ w R d v → d.cells.length = v.cells.toList.length ∧ ∀ (k : Nat) e u, d.cells[k]? = some e → v.cells.toList[k]? = some u → one u ∧ RepV st μ w R e u := by
    intro d hd h1 hr
    have ho := one_of hr h1
    rw [hd, one_cells ho]
    refine ⟨rfl, fun k e u he hu => ?_⟩
    cases k with
    | zero => simp at he hu; subst he; subst hu; exact ⟨ho, hr⟩
    | succ k => simp at he
  cases c with
  | agg cs =>
    obtain ⟨vs, hl, hh, rfl⟩ := h.agg_inv
    refine ⟨by simpa [V.cells, Value.cells] using hl, fun k d u hd hu => ?_⟩
    have := hh k d u hd (by simpa [Value.cells] using hu)
    exact ⟨one_of this (ones_get h1 k d hd), this⟩
  | _ => exact base _ rfl (ones_get h1 0 _ rfl) h

end ops

end Go.VS
