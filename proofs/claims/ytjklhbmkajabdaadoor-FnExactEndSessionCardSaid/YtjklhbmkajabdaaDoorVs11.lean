/- A list of operations, regions, code, calls: the program logic without memory. -/
import Derived.Test.YtjklhbmkajabdaaDoorVs13
import Derived.Deep.LoopGhost
set_option linter.all false
namespace Go.VS
open Go Go.RowKit

def put : Option Nat → V → Env → Env
  | none, _, ρ => ρ
  | some d, v, ρ => (d, v) :: ρ

def opsW (P : Program) : List CO → Env → Store → (Env → Store → Prop) → Prop
  | [], ρ, st, K => K ρ st
  | c :: r, ρ, st, K => match c.g with
    | none => opW P ρ st c.o fun v st' => opsW P r (put c.d v ρ) st' K
    | some (j, b) => guardP b (lk ρ j) (opW P ρ st c.o fun v st' => opsW P r (put c.d v ρ) st' K) (opsW P r (put c.d .un ρ) st K)

/-- The state as it lies in memory. -/
structure At (N : Nat) (st : Store) (μ : List Mu) (w : World) (R : Nat → Prop) (ρ : Env) (a : Act) : Prop where
  ok : SOk st μ w R
  env : REnv st μ w R ρ a.tmps
  size : a.tmps.size = N
  defers : a.defers = []

def dOk (N : Nat) : Option Nat → Bool
  | none => true
  | some d => Nat.blt d N

/-- The model's operation in short: its slot lies in the frame, its guard's slot is known. -/
def stripO (N : Nat) (im : Bool) (ops : Array Oper) (o : Oper) : Option CO :=
  if dOk N o.dst then
    match o.guard with
    | none => some ⟨o.dst, bif im then (O.of o.op).im else .of o.op, none⟩
    | some (j, b) => match (ops[j]?).bind (·.dst) with
      | some d => if Nat.blt d N then some ⟨o.dst, bif im then (O.of o.op).im else .of o.op, some (d, b)⟩ else none
      | none => none
  else none

def stripL (N : Nat) (im : Bool) (ops : Array Oper) : List Oper → Option (List CO)
  | [] => some []
  | o :: r => match stripO N im ops o, stripL N im ops r with
    | some c, some cs => some (c :: cs)
    | _, _ => none

theorem REnv.ext {st st' : Store} {μ μ' : List Mu} {w w' : World} {R R' : Nat → Prop} (hs : SOk st μ w R) (h : Ext st μ w R st' μ' w' R') {ρ : Env} {tmps : Array Value} (he : REnv st μ w R ρ tmps) : REnv st' μ' w' R' ρ tmps :=
  fun k => (he k).ext hs h

theorem REnv.put {st : Store} {μ : List Mu} {w : World} {R : Nat → Prop} {ρ : Env} {a : Act} {N : Nat} (he : REnv st μ w R ρ a.tmps) (hN : a.tmps.size = N) {d : Option Nat} (hd : dOk N d = true) {c : V} {v : Value}
    (hc : RepV st μ w R c v) : REnv st μ w R (put d c ρ) (a.put d v).tmps := by
  intro k
  cases d with
  | none => exact he k
  | some d =>
    have hlt : d < a.tmps.size := by rw [hN]; simpa [dOk, Nat.blt_eq] using hd
    simp only [VS.put, lk, Act.put]
    by_cases h : d = k
    · subst h
      rw [if_pos rfl]
      have : (a.tmps.setIfInBounds d v).getD d undef = v := by simp [hlt]
      rw [this]; exact hc
    · rw [if_neg h]
      have : (a.tmps.setIfInBounds d v).getD k undef = a.tmps.getD k undef := by
        simp only [Array.getD_eq_getD_getElem?, Array.getElem?_setIfInBounds, if_neg h]
      rw [this]; exact he k

theorem At.step {N : Nat} {st st' : Store} {μ μ' : List Mu} {w w' : World} {R R' : Nat → Prop} {ρ : Env} {a : Act} (h : At N st μ w R ρ a) (hs : SOk st' μ' w' R') (hx : Ext st μ w R st' μ' w' R') {d : Option Nat} (hd : dOk N d = true)
    {c : V} {v : Value} (hc : RepV st' μ' w' R' c v) : At N st' μ' w' R' (put d c ρ) (a.put d v) :=
  ⟨hs, (h.env.ext h.ok hx).put h.size hd hc, by cases d <;> simp [Act.put, h.size], by cases d <;> exact h.defers⟩

/-- What holds at an end, said of the memory. -/
def Post (N : Nat) (st : Store) (μ : List Mu) (w : World) (R : Nat → Prop) (K : Env → Store → Prop) (a' : Act) (w' : World) : Prop :=
  ∃ ρ' st' μ' R', At N st' μ' w' R' ρ' a' ∧ Ext st μ w R st' μ' w' R' ∧ K ρ' st'

theorem Post.trans {N : Nat} {st st' : Store} {μ μ' : List Mu} {w w' : World} {R R' : Nat → Prop} {K : Env → Store → Prop} {a' : Act} {w'' : World} (hx : Ext st μ w R st' μ' w' R') (h : Post N st' μ' w' R' K a' w'') : Post N st μ w R K a' w'' :=
  let ⟨ρ', st'', μ'', R'', h1, h2, h3⟩ := h
  ⟨ρ', st'', μ'', R'', h1, hx.trans h2, h3⟩

section
variable {P : Program} {N : Nat} {im : Bool} {ops : Array Oper}

/-- What a guard in short says of the model's. -/
theorem guard_of {o : Oper} {co : CO} (hc : stripO N im ops o = some co) : dOk N co.d = true ∧ co.d = o.dst ∧ co.o = (bif im then (O.of o.op).im else O.of o.op) ∧
    ((o.guard = none ∧ co.g = none) ∨ ∃ j b d, o.guard = some (j, b) ∧ (ops[j]?).bind (·.dst) = some d ∧ d < N ∧ co.g = some (d, b)) := by
  simp only [stripO] at hc
  split at hc
  · rename_i hd
    split at hc
    · rename_i hg
      cases hc
      exact ⟨hd, rfl, rfl, .inl ⟨hg, rfl⟩⟩
    · rename_i j b hg
      split at hc
      · rename_i d hdj
        split at hc
        · rename_i hN
          cases hc
          exact ⟨hd, rfl, rfl, .inr ⟨j, b, d, hg, hdj, by simpa [Nat.blt_eq] using hN, rfl⟩⟩
        · cases hc
      · cases hc
  · cases hc

theorem wanted_none {o : Oper} {a : Act} (hg : o.guard = none) : Region.wanted o (yielded ops a.tmps) = true := by simp [Region.wanted, hg]

theorem wanted_some {st : Store} {μ : List Mu} {w : World} {R : Nat → Prop} {ρ : Env} {a : Act} (ha : At N st μ w R ρ a) {o : Oper} {j d : Nat} {b t : Bool} (hg : o.guard = some (j, b)) (hd : (ops[j]?).bind (·.dst) = some d) (hN : d < N)
    (ht : lk ρ d = .x (.bool t)) : Region.wanted o (yielded ops a.tmps) = (t == b) := by
  have hv := ha.env d
  rw [ht] at hv
  have hval := hv.x_inv
  have hlt : d < a.tmps.size := by rw [ha.size]; exact hN
  have hy : yielded ops a.tmps j = some t := by
    unfold yielded
    rw [hd]
    have : a.tmps[d]? = some (.bool t) := by
      rw [Array.getElem?_eq_getElem hlt]
      rw [Array.getD_eq_getD_getElem?, Array.getElem?_eq_getElem hlt] at hval
      simpa using hval
    simp [this]
  simp only [Region.wanted, hg, hy]
  cases t <;> cases b <;> rfl

theorem wanted_tup {st : Store} {μ : List Mu} {w : World} {R : Nat → Prop} {ρ : Env} {a : Act} (ha : At N st μ w R ρ a) {o : Oper} {j d : Nat} {b : Bool} {vs : Array Value} (hg : o.guard = some (j, b)) (hd : (ops[j]?).bind (·.dst) = some d)
    (ht : lk ρ d = .x (.tuple vs)) : Region.wanted o (yielded ops a.tmps) = false := by
  have hv := ha.env d
  rw [ht] at hv
  have hval := hv.x_inv
  have hy : yielded ops a.tmps j = none := by
    unfold yielded
    rw [hd]
    simp only [Option.bind_some]
    rw [Array.getD_eq_getD_getElem?] at hval
    cases h : a.tmps[d]? with
    | none => rfl
    | some u => rw [h] at hval; simp only [Option.getD_some] at hval; rw [hval]
  simp [Region.wanted, hg, hy]

theorem guard_wanted {st : Store} {μ : List Mu} {w : World} {R : Nat → Prop} {ρ : Env} {a : Act} (ha : At N st μ w R ρ a) {o : Oper} {j d : Nat} {b : Bool} (hg : o.guard = some (j, b)) (hd : (ops[j]?).bind (·.dst) = some d) (hN : d < N)
    {A B : Prop} (h : guardP b (lk ρ d) A B) : (Region.wanted o (yielded ops a.tmps) = true ∧ A) ∨ (Region.wanted o (yielded ops a.tmps) = false ∧ B) := by
  rcases guardP_inv h with ⟨t, ht, h⟩ | ⟨vs, ht, h⟩
  · rw [wanted_some ha hg hd hN ht]
    rcases h with ⟨e, h'⟩ | ⟨e, h'⟩
    · exact .inl ⟨by rw [e]; simp, h'⟩
    · exact .inr ⟨by rw [e]; cases b <;> rfl, h'⟩
  · exact .inr ⟨wanted_tup ha hg hd ht, h⟩

end

theorem ops_sound {P : Program} {N : Nat} {im : Bool} {ops : Array Oper} {Q : Exit → Act → World → Prop} : ∀ (l : List Oper) (cs : List CO) {st : Store} {μ : List Mu} {w : World} {R : Nat → Prop} {ρ : Env} {a : Act} {K : Env → Store → Prop},
    stripL N im ops l = some cs → At N st μ w R ρ a → opsW P cs ρ st K → (∀ a' w', Post N st μ w R K a' w' → Q .normal a' w') → wpList P ops Q l a w := by
  intro l
  induction l with
  | nil =>
    intro cs st μ w R ρ a K hc ha h hQ
    simp only [stripL, Option.some.injEq] at hc
    subst hc
    exact hQ a w ⟨ρ, st, μ, R, ha, Ext.refl _ _ _ _, h⟩
  | cons o r ih =>
    intro cs st μ w R ρ a K hc ha h hQ
    simp only [stripL] at hc
    split at hc
    · rename_i c cs' h1 h2
      simp only [Option.some.injEq] at hc
      subst hc
      simp only [stripO] at h1
      split at h1
      · rename_i hd
        -- one operation, carried out
        have go : opW P ρ st (bif im then (O.of o.op).im else .of o.op) (fun v st' => opsW P cs' (put o.dst v ρ) st' K) → o.wp P a w (wpList P ops Q r) Q := by
          intro h
          unfold Oper.wp
          rcases run_im ha.ok ha.env o im h with ⟨val, w', c', st', μ', R', hr, hx, hs, hc', hK⟩ | ⟨f, vals, hr, hcall⟩
          · have hnext := ih cs' h2 (ha.step hs hx hd hc') hK (fun a' w'' hp => hQ a' w'' (Post.trans hx hp))
            rcases hr with hr | ⟨hr, rfl⟩
            · rw [hr]; exact hnext
            · rw [hr]; exact hnext
          · rw [hr]
            refine hcall.mono fun e w' hb => ?_
            obtain ⟨c', val, st', μ', R', rfl, hx, hs, hc', hK⟩ := hb
            exact ih cs' h2 (ha.step hs hx hd hc') hK (fun a' w'' hp => hQ a' w'' (Post.trans hx hp))
        unfold wpList
        split at h1
        · rename_i hg
          simp only [Option.some.injEq] at h1
          subst h1
          rw [if_pos (by simp [Region.wanted, hg])]
          exact .inl (go h)
        · rename_i j b hg
          split at h1
          · rename_i d hdj
            split at h1
            · rename_i hdN
              simp only [Option.some.injEq] at h1
              subst h1
              simp only [opsW] at h
              rcases guard_wanted ha hg hdj (by simpa [Nat.blt_eq] using hdN) h with ⟨hw, h⟩ | ⟨hw, h⟩
              · rw [if_pos hw]
                exact .inl (go h)
              · rw [hw, if_neg (by simp)]
                exact ih cs' h2 (ha.step ha.ok (Ext.refl _ _ _ _) hd (.imm (.x undef))) h hQ
            · cases h1
          · cases h1
      · cases h1
    · cases hc

end Go.VS
