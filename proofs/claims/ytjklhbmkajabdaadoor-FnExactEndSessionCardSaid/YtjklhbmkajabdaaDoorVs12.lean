/- Code and calls: the program logic without memory. -/
import Derived.Test.YtjklhbmkajabdaaDoorVsE
import Derived.Deep.LoopGhost
set_option linter.all false
namespace Go.VS
open Go Go.RowKit

inductive X where
  | nm
  | ex (id : Nat)
  | rt

inductive C where
  | sk
  | rg (ops : List CO)
  | rd (d : DC)
  | sq (a b : C)
  | cd (c : A) (t e : C)
  | bl (id : Nat) (b : C)
  | lp (b : C)
  | xi (id : Nat)
  | rt
deriving Inhabited

/-- A state may be taken for another one (what is not needed is let go), beyond the blocks of the first store. -/
def Weak (st0 : Store) (J : Env → Store → Prop) (ρ : Env) (st : Store) : Prop :=
  ∀ μ0 w0 R0 μ w R (tmps : Array Value), SOk st0 μ0 w0 R0 → Ext st0 μ0 w0 R0 st μ w R → SOk st μ w R → REnv st μ w R ρ tmps →
    ∃ ρ' st' μ' R', J ρ' st' ∧ SOk st' μ' w R' ∧ REnv st' μ' w R' ρ' tmps ∧ Ext st0 μ0 w0 R0 st' μ' w R'

def LoopW (st0 : Store) (body : Env → Store → (X → Env → Store → Prop) → Prop) (ρ : Env) (st : Store) (Q : X → Env → Store → Prop) : Prop :=
  ∃ I : Nat → Env → Store → Prop, (∃ n, Weak st0 (I n) ρ st) ∧ ∀ n ρ st, I n ρ st → body ρ st fun e ρ' st' => match e with
    | .nm => ∃ k, k < n ∧ Weak st0 (I k) ρ' st'
    | e => Q e ρ' st'

def W (P : Program) (st0 : Store) : C → Env → Store → (X → Env → Store → Prop) → Prop
  | .sk, ρ, st, Q => Q .nm ρ st
  | .rg ops, ρ, st, Q => opsW P ops ρ st (Q .nm)
  | .rd d, ρ, st, Q => dW P d ρ st (Q .nm)
  | .sq a b, ρ, st, Q => W P st0 a ρ st fun e ρ st => match e with
    | .nm => W P st0 b ρ st Q
    | e => Q e ρ st
  | .cd c t e, ρ, st, Q => match ev ρ c with
    | .x (.bool b) => gcase b (W P st0 t ρ st Q) (W P st0 e ρ st Q)
    | _ => False
  | .bl id b, ρ, st, Q => W P st0 b ρ st fun e ρ st => match e with
    | .ex i => if i = id then Q .nm ρ st else Q (.ex i) ρ st
    | e => Q e ρ st
  | .lp b, ρ, st, Q => LoopW st0 (fun ρ st Q => W P st0 b ρ st Q) ρ st Q
  | .xi id, ρ, st, Q => Q (.ex id) ρ st
  | .rt, ρ, st, Q => Q .rt ρ st


/-- May be taken in any order with others of its kind: it writes nothing ('pc': the calls of which this is so). -/
def pureO (pc : Nat → Nat) : O → Bool
  | .st .. | .al _ | .bx .. | .bs .. | .ms .. | .ot => false
  | .bu b _ _ => match b with | .append => false | _ => true
  | .ca f _ => Nat.beq (pc f) 1
  | _ => true

/-- Lays one block and does nothing else. -/
def adderO (pc : Nat → Nat) : O → Bool
  | .al _ => true
  | .ca f _ => Nat.beq (pc f) 2
  | _ => false

def pureAt (N : Nat) (im : Bool) (pc : Nat → Nat) (ops : Array Oper) (i : Nat) : Bool := match stepO N im ops i with | some c => pureO pc c.o | none => false
def stillAt (N : Nat) (im : Bool) (ops : Array Oper) (i : Nat) : Bool := match stepO N im ops i with | some c => stillO c.o | none => false

def grow (N : Nat) (im : Bool) (pc : Nat → Nat) (ops : Array Oper) : Nat → Array Bool → List Nat
  | 0, _ => []
  | f + 1, L => match (Region.ready .any ops L).find? (pureAt N im pc ops) with
    | some i => i :: grow N im pc ops f (L.setIfInBounds i true)
    | none => []

def adderAt (N : Nat) (im : Bool) (pc : Nat → Nat) (ops : Array Oper) (i : Nat) : Bool := match stepO N im ops i with | some c => adderO pc c.o | none => false

def growN (N : Nat) (im : Bool) (pc : Nat → Nat) (ops : Array Oper) : Nat → Array Bool → List (Bool × Nat)
  | 0, _ => []
  | f + 1, L => match (Region.ready .any ops L).find? (fun i => pureAt N im pc ops i || adderAt N im pc ops i) with
    | some i => (adderAt N im pc ops i, i) :: growN N im pc ops f (L.setIfInBounds i true)
    | none => []

def sched (N : Nat) (im : Bool) (pc : Nat → Nat) (ops : Array Oper) : Nat → Array Bool → DS
  | 0, _ => .dn
  | f + 1, L =>
    let rs := Region.ready .any ops L
    if rs.isEmpty then .dn else
    match rs.find? (fun i => stillAt N im ops i && Region.free .any ops L i) with
    | some i => .e i (sched N im pc ops f (L.setIfInBounds i true))
    | none =>
      let H := grow N im pc ops ops.size L
      let ok := match stepsO N im ops H with | some hs => hB ops L hs | none => false
      if Nat.blt 1 H.length && ok then .h H (sched N im pc ops f (setAll L H))
      else
      let G := growN N im pc ops ops.size L
      let ok := match stepsN N im ops G with | some hs => hB ops L (hsOf hs) | none => false
      if Nat.blt 1 G.length && ok then .n G (sched N im pc ops f (setAll L (G.map (·.2))))
      else rs.foldr (fun i acc => .a i (sched N im pc ops f (L.setIfInBounds i true)) acc) .nx

def strip (N : Nat) (im : Bool) (pc : Nat → Nat) : Code → Option C
  | .skip => some .sk
  | .region _ ops draw => if draw then (let L := Array.replicate ops.size false; let s := sched N im pc ops (ops.size + 1) L; if Nat.ble s.cnt ops.size then (dchk N im ops false s L).map .rd else none) else (stripL N im ops ops.toList).map .rg
  | .seq a b => match strip N im pc a, strip N im pc b with
    | some x, some y => some (.sq x y)
    | _, _ => none
  | .cond c t e => match strip N im pc t, strip N im pc e with
    | some x, some y => some (.cd (.of c) x y)
    | _, _ => none
  | .block id b => (strip N im pc b).map (.bl id)
  | .loop b => (strip N im pc b).map .lp
  | .exit id => some (.xi id)
  | .ret => some .rt
  | _ => none

section
variable {P : Program} {N : Nat} {im : Bool} {pc : Nat → Nat} {st0 : Store} {μ0 : List Mu} {w0 : World} {R0 : Nat → Prop}

def PostC (N : Nat) (st0 : Store) (μ0 : List Mu) (w0 : World) (R0 : Nat → Prop) (Q : X → Env → Store → Prop) : Exit → Act → World → Prop
  | .normal, a, w => Post N st0 μ0 w0 R0 (Q .nm) a w
  | .exit id, a, w => Post N st0 μ0 w0 R0 (Q (.ex id)) a w
  | .ret, a, w => Post N st0 μ0 w0 R0 (Q .rt) a w
  | _, _, _ => False

theorem code_sound (hmx : P.follows .mixedOrders = true) (hs0 : SOk st0 μ0 w0 R0) : ∀ (code : Code) (c : C), strip N im pc code = some c → ∀ {st : Store} {μ : List Mu} {w : World} {R : Nat → Prop} {ρ : Env} {a : Act} {Q : X → Env → Store → Prop},
    Ext st0 μ0 w0 R0 st μ w R → At N st μ w R ρ a → W P st0 c ρ st Q → code.wp P (PostC N st0 μ0 w0 R0 Q) a w := by
  intro code
  induction code with
  | skip =>
    intro c hc st μ w R ρ a Q hx ha h
    simp only [strip, Option.some.injEq] at hc; subst hc
    exact wp_skip ⟨ρ, st, μ, R, ha, hx, h⟩
  | region id ops draw =>
    intro c hc st μ w R ρ a Q hx ha h
    simp only [strip] at hc
    split at hc
    · rename_i hd
      have hd : draw = true := hd
      subst hd
      skip
      split at hc
      · rename_i hcnt
        cases hl : dchk N im ops false (sched N im pc ops (ops.size + 1) (Array.replicate ops.size false)) (Array.replicate ops.size false) with
        | none => simp [hl] at hc
        | some d =>
          simp only [hl, Option.map_some, Option.some.injEq] at hc; subst hc
          refine wp_region_any hmx ?_
          obtain ⟨q1, q2⟩ := drew_ok ha.ok
          have hat : At N st μ { w with drawn := w.drawn + 1 } R ρ a := ⟨q1, ha.env.ext ha.ok q2, ha.size, ha.defers⟩
          exact (d_sound (P := P) (Q := PostC N st0 μ0 w0 R0 Q) (fun c a w h => h) _ false _ d hl (by simp) ops.size (by simpa [Nat.ble_eq] using hcnt) hat h (fun a' w' hp => Post.trans (hx.trans q2) hp)).1 rfl
      · cases hc
    · rename_i hd
      have hd : draw = false := by simpa using hd
      subst hd
      cases hl : stripL N im ops ops.toList with
      | none => simp [hl] at hc
      | some cs =>
        simp only [hl, Option.map_some, Option.some.injEq] at hc; subst hc
        exact wp_region_list (ops_sound _ _ hl ha h fun a' w' hp => Post.trans hx hp)
  | seq x y ihx ihy =>
    intro c hc st μ w R ρ a Q hx ha h
    simp only [strip] at hc
    split at hc
    · rename_i cx cy h1 h2
      simp only [Option.some.injEq] at hc; subst hc
      refine wp_seq (wp_mono (ihx cx h1 hx ha h) fun e a' w' hq => ?_)
      cases e with
      | normal =>
        obtain ⟨ρ', st', μ', R', g1, g2, g3⟩ := hq
        exact ihy cy h2 g2 g1 g3
      | exit id => exact hq
      | ret => exact hq
      | goto l => exact hq.elim
      | panic ch => exact hq.elim
      | outgrown => exact hq.elim
    · cases hc
  | cond x t e iht ihe =>
    intro c hc st μ w R ρ a Q hx ha h
    simp only [strip] at hc
    split at hc
    · rename_i ct ce h1 h2
      simp only [Option.some.injEq] at hc; subst hc
      simp only [W] at h
      split at h
      · rename_i b hb
        have hv := ev_rep ha.ok ha.env x
        rw [hb] at hv
        exact wp_cond_split hv.x_inv (fun hb => iht ct h1 hx ha (h.1 hb)) (fun hb => ihe ce h2 hx ha (h.2 hb))
      · exact h.elim
    · cases hc
  | block id b ih =>
    intro c hc st μ w R ρ a Q hx ha h
    simp only [strip] at hc
    cases hb : strip N im pc b with
    | none => simp [hb] at hc
    | some cb =>
      simp only [hb, Option.map_some, Option.some.injEq] at hc; subst hc
      refine wp_block (wp_mono (ih cb hb hx ha h) fun e a' w' hq => ?_)
      cases e with
      | normal => exact hq
      | exit i =>
        simp only [PostC, Exit.inBlock] at hq ⊢
        by_cases hi : i = id
        · simp only [hi, if_true] at hq ⊢; exact hq
        · simp only [hi, if_false] at hq ⊢; exact hq
      | ret => exact hq
      | goto l => exact hq.elim
      | panic ch => exact hq.elim
      | outgrown => exact hq.elim
  | loop b ih =>
    intro c hc st μ w R ρ a Q hx ha h
    simp only [strip] at hc
    cases hb : strip N im pc b with
    | none => simp [hb] at hc
    | some cb =>
      simp only [hb, Option.map_some, Option.some.injEq] at hc; subst hc
      obtain ⟨I, ⟨n, h0⟩, hr⟩ := h
      obtain ⟨ρ1, st1, μ1, R1, j1, j2, j3, j4⟩ := h0 μ0 w0 R0 μ w R a.tmps hs0 hx ha.ok ha.env
      refine wp_loop_ghost (fun n a w => ∃ ρ st μ R, At N st μ w R ρ a ∧ Ext st0 μ0 w0 R0 st μ w R ∧ I n ρ st) n ⟨ρ1, st1, μ1, R1, ⟨j2, j3, ha.size, ha.defers⟩, j4, j1⟩ ?_
      rintro n a w ⟨ρ, st, μ, R, g1, g2, g3⟩
      refine wp_mono (ih cb hb g2 g1 (hr n ρ st g3)) fun e a' w' hq => ?_
      cases e with
      | normal =>
        obtain ⟨ρ', st', μ', R', q1, q2, k, hk, q3⟩ := hq
        obtain ⟨ρ2, st2, μ2, R2, p1, p2, p3, p4⟩ := q3 μ0 w0 R0 μ' w' R' a'.tmps hs0 q2 q1.ok q1.env
        exact ⟨k, hk, ρ2, st2, μ2, R2, ⟨p2, p3, q1.size, q1.defers⟩, p4, p1⟩
      | exit id => exact hq
      | ret => exact hq
      | goto l => exact hq.elim
      | panic ch => exact hq.elim
      | outgrown => exact hq.elim
  | exit id =>
    intro c hc st μ w R ρ a Q hx ha h
    simp only [strip, Option.some.injEq] at hc; subst hc
    exact wp_exit ⟨ρ, st, μ, R, ha, hx, h⟩
  | ret =>
    intro c hc st μ w R ρ a Q hx ha h
    simp only [strip, Option.some.injEq] at hc; subst hc
    exact wp_ret ⟨ρ, st, μ, R, ha, hx, h⟩
  | rangeFunc => intro c hc; simp [strip] at hc
  | scope => intro c hc; simp [strip] at hc
  | label => intro c hc; simp [strip] at hc
  | goto => intro c hc; simp [strip] at hc
  | refuse => intro c hc; simp [strip] at hc

end

/-- The end of a call: what is handed back and the store may be taken for others, beyond the blocks of the first store. -/
def Fin (st0 : Store) (Q : V → Store → Prop) (r : V) (st : Store) : Prop :=
  ∀ μ0 w0 R0 μ w R val, SOk st0 μ0 w0 R0 → Ext st0 μ0 w0 R0 st μ w R → SOk st μ w R → RepV st μ w R r val →
    ∃ r' st' μ' R', Q r' st' ∧ Ext st0 μ0 w0 R0 st' μ' w R' ∧ SOk st' μ' w R' ∧ RepV st' μ' w R' r' val

def envOf : Nat → List V → Env
  | _, [] => []
  | k, v :: r => (k, v) :: envOf (k + 1) r

theorem lk_envOf : ∀ (vs : List V) (k i : Nat), lk (envOf k vs) i = if k ≤ i then (vs[i - k]?).getD .bad else .bad := by
  intro vs
  induction vs with
  | nil => intro k i; simp [envOf, lk]
  | cons v r ih =>
    intro k i
    rw [envOf, lk, ih]
    by_cases h : k = i
    · subst h; simp
    · rw [if_neg h]
      by_cases h1 : k ≤ i
      · rw [if_pos h1, if_pos (by omega), show i - k = (i - (k + 1)) + 1 by omega]; simp
      · rw [if_neg h1, if_neg (by omega)]

/-- The results of a function. -/
def retW (P : Program) (ρ : Env) (st : Store) : List ResultVar → (List V → Prop) → Prop
  | [], K => K []
  | .tmp t :: r, K => retW P ρ st r fun vs => K (lk ρ t :: vs)
  | .cell a t :: r, K => opW P ρ st (.ld t (.t a)) fun v _ => retW P ρ st r fun vs => K (v :: vs)

def ret1 : List V → V
  | [v] => v
  | vs => .tup vs

section
variable {P : Program} {N : Nat} {st : Store} {μ : List Mu} {w : World} {R : Nat → Prop} {ρ : Env} {a : Act}

theorem load_of {t : Nat} {v val : Value} {w' : World} (h : (Instr.loadAt t v).run P w = .ok val w') : ∃ ad, v = .pointer (some ad) ∧ (loadVar t ad).run P w = .ok val w' := by
  unfold Instr.loadAt at h
  simp only [Sem.run_bind] at h
  cases v with
  | pointer ad => cases ad with
    | some ad => exact ⟨ad, rfl, by simpa [Instr.sureAddr] using h⟩
    | none => simp [Instr.sureAddr] at h
  | _ => simp [Instr.sureAddr] at h

theorem ld_run (ha : At N st μ w R ρ a) {t k : Nat} {K : V → Store → Prop} (h : opW P ρ st (.ld t (.t k)) K) :
    ∃ ad val c, a.tmps.getD k undef = .pointer (some ad) ∧ (loadVar t ad).run P w = .ok val w ∧ RepV st μ w R c val ∧ K c st := by
  obtain ⟨val, c, h1, h2, h3⟩ := ld_core (x := .tmp k) ha.ok ha.env h
  obtain ⟨ad, g1, g2⟩ := load_of h1
  exact ⟨ad, val, c, g1, g2, h2, h3⟩

def oneRes (tmps : Array Value) : ResultVar → Sem Value
  | .tmp t => pure (tmps.getD t undef)
  | .cell x t => do loadVar t (← asAddr (tmps.getD x undef))

theorem results_eq (fn : Func) (tmps : Array Value) : results fn tmps = (do
    let vs ← fn.results.mapM (oneRes tmps)
    pure (if h : vs.size = 1 then vs[0] else .tuple vs)) := by
  unfold results
  have : (fun | .tmp t => (pure (tmps.getD t undef) : Sem Value) | .cell x t => do loadVar t (← asAddr (tmps.getD x undef)) : ResultVar → Sem Value) = oneRes tmps := by
    funext r; cases r <;> rfl
  rw [← this]
  rfl

theorem ret_run (ha : At N st μ w R ρ a) : ∀ (rs : List ResultVar) {K : List V → Prop}, retW P ρ st rs K →
    ∃ (vals : List Value) (cs : List V), (rs.mapM (oneRes a.tmps)).run P w = .ok vals w ∧ cs.length = vals.length ∧
      (∀ (k : Nat) c v, cs[k]? = some c → vals[k]? = some v → RepV st μ w R c v) ∧ K cs := by
  intro rs
  induction rs with
  | nil => intro K h; exact ⟨[], [], by simp, rfl, fun k c v hc => by simp at hc, h⟩
  | cons r rs ih =>
    intro K h
    cases r with
    | tmp t =>
      obtain ⟨vals, cs, h1, h2, h3, h4⟩ := ih h
      refine ⟨a.tmps.getD t undef :: vals, lk ρ t :: cs, by simp only [List.mapM_cons, Sem.run_bind, oneRes, Sem.run_pure, Result.andThen_ok, h1], by simp [h2], fun k c v hc hv => ?_, h4⟩
      cases k with
      | zero => simp only [List.getElem?_cons_zero, Option.some.injEq] at hc hv; subst hc; subst hv; exact ha.env t
      | succ k => exact h3 k c v (by simpa using hc) (by simpa using hv)
    | cell x t =>
      obtain ⟨ad, val, c, g1, g2, g3, g4⟩ := ld_run ha h
      obtain ⟨vals, cs, h1, h2, h3, h4⟩ := ih g4
      refine ⟨val :: vals, c :: cs, by simp only [List.mapM_cons, Sem.run_bind, oneRes, g1, asAddr, Sem.run_pure, Result.andThen_ok, g2, h1], by simp [h2], fun k c v hc hv => ?_, h4⟩
      cases k with
      | zero => simp only [List.getElem?_cons_zero, Option.some.injEq] at hc hv; subst hc; subst hv; exact g3
      | succ k => exact h3 k c v (by simpa using hc) (by simpa using hv)

theorem results_run (ha : At N st μ w R ρ a) (fn : Func) {K : V → Prop} (h : retW P ρ st fn.results.toList fun vs => K (ret1 vs)) :
    ∃ val c, (results fn a.tmps).run P w = .ok val w ∧ RepV st μ w R c val ∧ K c := by
  obtain ⟨vals, cs, h1, h2, h3, h4⟩ := ret_run ha fn.results.toList h
  have hm : (fn.results.mapM (oneRes a.tmps)).run P w = .ok vals.toArray w := by
    rw [Array.mapM_eq_mapM_toList]
    simp only [Sem.run_map, h1, Result.andThen_ok]
  by_cases h5 : vals.length = 1
  · obtain ⟨v, rfl⟩ := List.length_eq_one_iff.1 h5
    obtain ⟨c, rfl⟩ := List.length_eq_one_iff.1 (h2.trans h5)
    refine ⟨v, c, ?_, h3 0 c v rfl rfl, h4⟩
    simp only [results_eq, Sem.run_bind, hm, Result.andThen_ok]
    simp
  · refine ⟨.tuple vals.toArray, .tup cs, ?_, .tup cs vals h2 h3, ?_⟩
    · simp only [results_eq, Sem.run_bind, hm, Result.andThen_ok]
      simp [h5]
    · have : ret1 cs = .tup cs := by
        unfold ret1
        split
        · rename_i v; simp at h2; exact absurd h2.symm h5
        · rfl
      rw [← this]; exact h4

end

/-- A function's contract from its code. -/
theorem Spec.of_body {P : Program} (hmx : P.follows .mixedOrders = true) {im : Bool} {pc : Nat → Nat} {f : Nat} {fn : Func} {code : Code} {c : C} {args : List V} {st : Store} {Q : V → Store → Prop} (hf : P.funcs[f]? = some fn) (hb : fn.body = some code) (hn : (fn.name == "runtime.NumGoroutine") = false)
    (hc : strip fn.ntmps im pc code = some c) (hN : args.length ≤ fn.ntmps)
    (h : W P st c (envOf 0 args) st fun e ρ st' => match e with
      | .ex _ => False
      | _ => retW P ρ st' fn.results.toList fun vs => Fin st Q (ret1 vs) st') : Spec P f args st Q := by
  refine ⟨⟨fn, hf, by simp [hb], hn⟩, fun μ w R vals hs hl hv => ?_⟩
  refine calls_of_wp hf hb ?_
  have hat : At fn.ntmps st μ w R (envOf 0 args) { tmps := vals.toArray ++ Array.replicate (fn.ntmps - vals.toArray.size) undef, defers := [] } := by
    refine ⟨hs, fun k => ?_, by simp; omega, rfl⟩
    rw [lk_envOf, if_pos (Nat.zero_le _), Nat.sub_zero]
    by_cases hk : k < args.length
    · rw [List.getElem?_eq_getElem hk]
      have hk' : k < vals.length := by omega
      have : (vals.toArray ++ Array.replicate (fn.ntmps - vals.toArray.size) undef).getD k undef = vals[k] := by
        rw [Array.getD_eq_getD_getElem?, Array.getElem?_append_left (by simpa using hk')]; simp [hk']
      show RepV st μ w R _ ((vals.toArray ++ Array.replicate (fn.ntmps - vals.toArray.size) undef).getD k undef)
      rw [this]
      exact hv k _ _ (List.getElem?_eq_getElem hk) (List.getElem?_eq_getElem hk')
    · rw [List.getElem?_eq_none (by omega)]; exact .bad _
  refine wp_mono (code_sound hmx hs code c hc (Ext.refl st μ w R) hat h) fun e a w' hq => ?_
  have fin : Post fn.ntmps st μ w R (fun ρ st' => retW P ρ st' fn.results.toList fun vs => Fin st Q (ret1 vs) st') a w' →
      a.defers = [] ∧ ∃ v, (results fn a.tmps).run P w' = .ok v w' ∧ ∃ r val st' μ' R', (Ending.returned v) = .returned val ∧ Ext st μ w R st' μ' w' R' ∧ SOk st' μ' w' R' ∧ RepV st' μ' w' R' r val ∧ Q r st' := by
    rintro ⟨ρ', st', μ', R', g1, g2, g3⟩
    obtain ⟨val, c, r1, r2, r3⟩ := results_run (K := fun r => Fin st Q r st') g1 fn g3
    obtain ⟨r', st'', μ'', R'', q1, q2, q3, q4⟩ := r3 μ w R μ' w' R' val hs g2 g1.ok r2
    exact ⟨g1.defers, val, r1, r', val, st'', μ'', R'', rfl, q2, q3, q4, q1⟩
  cases e with
  | normal => exact fin hq
  | ret => exact fin hq
  | exit id => obtain ⟨_, _, _, _, _, _, h⟩ := hq; exact h.elim
  | goto l => exact hq.elim
  | panic ch => exact hq.elim
  | outgrown => exact hq.elim

end Go.VS
