/- Contracts from code: the facts of a function, and the rules by which its code is read. -/
import Derived.Test.YtjklhbmkajabdaaDoorVs15
import Derived.Attr
set_option linter.all false
namespace Go.VS
open Go Go.RowKit

/-- What is asked of a program about one of its functions. -/
def FD (P : Program) (f : Nat) (im : Bool) (pc : Nat → Nat) (N : Nat) (c : C) (rs : List ResultVar) : Prop :=
  P.follows .mixedOrders = true ∧ ∃ fn, P.funcs[f]? = some fn ∧ (fn.name == "runtime.NumGoroutine") = false ∧ fn.ntmps = N ∧ fn.body.bind (strip N im pc) = some c ∧ fn.results.toList = rs

/-- The end of a body. -/
def endW (P : Program) (st : Store) (rs : List ResultVar) (Q : V → Store → Prop) : X → Env → Store → Prop
  | .ex _, _, _ => False
  | .nm, ρ, st' => retW P ρ st' rs fun vs => Fin st Q (ret1 vs) st'
  | .rt, ρ, st' => retW P ρ st' rs fun vs => Fin st Q (ret1 vs) st'

theorem Spec.of_fd {P : Program} {f : Nat} {im : Bool} {pc : Nat → Nat} {N : Nat} {c : C} {rs : List ResultVar} (hf : FD P f im pc N c rs) {args : List V} {st : Store} {Q : V → Store → Prop} (hN : Nat.ble args.length N = true)
    (h : W P st c (envOf 0 args) st (endW P st rs Q)) : Spec P f args st Q := by
  obtain ⟨hm, fn, h1, h2, rfl, h4, rfl⟩ := hf
  cases hb : fn.body with
  | none => simp [hb] at h4
  | some code =>
    simp only [hb, Option.bind_some] at h4
    refine Spec.of_body hm h1 hb h2 h4 (by simpa [Nat.ble_eq] using hN) ?_
    exact Eq.mpr (congrArg (W P st c (envOf 0 args) st) (funext fun e => funext fun ρ => funext fun st' => by cases e <;> rfl)) h

/-! ### Reading code -/

/-- What a rewriting leaves as it is: no part of it is looked at that a tag speaks of. -/
structure Tag {α : Type} (a : α) : Type where


def condW (c : V) (T E : Prop) (_ : Tag (T, E) := ⟨⟩) : Prop :=
  match c with
  | .x (.bool b) => gcase b T E
  | _ => False
def guardH (b : Bool) (c : V) (T E : Prop) (_ : Tag (T, E) := ⟨⟩) : Prop := guardP b c T E
@[go_sem] theorem guardH_un {b : Bool} {T E : Prop} : guardH b .un T E = E := rfl

@[congr] theorem gcase_congr {t t' : Bool} {A A' B B' : Prop} (ht : t = t') (ha : t' = true → A = A') (hb : t' = false → B = B') : gcase t A B = gcase t' A' B' := by
  subst ht
  unfold gcase
  cases t <;> simp_all

@[go_sem ↓] theorem gcase_true {A B : Prop} : gcase true A B = A := by simp [gcase]
@[go_sem ↓] theorem gcase_false {A B : Prop} : gcase false A B = B := by simp [gcase]
@[go_sem ↓] theorem gcase_not {t : Bool} {A B : Prop} : gcase (!t) A B = gcase t B A := by unfold gcase; cases t <;> simp
@[go_sem] theorem gcase_same {t : Bool} {A : Prop} : gcase t A A = A := by unfold gcase; cases t <;> simp
theorem gcase.mk {t : Bool} {A B : Prop} (h1 : t = true → A) (h2 : t = false → B) : gcase t A B := ⟨h1, h2⟩
theorem gcase.dec {p : Prop} [Decidable p] {A B : Prop} (h1 : p → A) (h2 : ¬ p → B) : gcase (decide p) A B := ⟨fun h => h1 (by simpa using h), fun h => h2 (by simpa using h)⟩

/-- A value, and what goes on with it: the value is worked out first. -/
def bindV (v : V) (st : Store) (K : V → Store → Prop) (_ : Tag K := ⟨⟩) : Prop := K v st
@[go_sem] theorem bindV_eq (v : V) (st : Store) (K : V → Store → Prop) : bindV v st K = K v st := rfl

/-- A loop, whole. -/
def LoopC (P : Program) (st0 : Store) (b : C) (ρ : Env) (st : Store) (Q : X → Env → Store → Prop) (_ : Tag (b, ρ, Q)) : Prop := LoopW st0 (fun ρ st Q => W P st0 b ρ st Q) ρ st Q
/-- A call, whole. -/
def SpecH (P : Program) (f : Nat) (as : List V) (st : Store) (K : V → Store → Prop) (_ : Tag K) : Prop := Spec P f as st K
@[congr] theorem Fin_congr {st0 : Store} {Q : V → Store → Prop} {r r' : V} {st st' : Store} (h : r = r') (hs : st = st') : Fin st0 Q r st = Fin st0 Q r' st' := by rw [h, hs]
@[congr] theorem Weak_congr {st0 : Store} {J : Env → Store → Prop} {ρ ρ' : Env} {st st' : Store} (h : ρ = ρ') (hs : st = st') : Weak st0 J ρ st = Weak st0 J ρ' st' := by rw [h, hs]

section
variable {P : Program} {st0 st : Store} {ρ : Env} {Q : X → Env → Store → Prop} {K : V → Store → Prop} {KE : Env → Store → Prop}

@[go_sem ↓] theorem W_sk : W P st0 .sk ρ st Q = Q .nm ρ st := rfl
@[go_sem ↓] theorem W_rg {l : List CO} : W P st0 (.rg l) ρ st Q = opsW P l ρ st (Q .nm) := rfl
@[go_sem ↓] theorem W_rd {d : DC} : W P st0 (.rd d) ρ st Q = dW P d ρ st (Q .nm) := rfl
def seqQ (P : Program) (st0 : Store) (b : C) (Q : X → Env → Store → Prop) : X → Env → Store → Prop := fun e ρ st => match e with
  | .nm => W P st0 b ρ st Q
  | e => Q e ρ st
@[go_sem ↓] theorem W_sq {a b : C} : W P st0 (.sq a b) ρ st Q = W P st0 a ρ st (seqQ P st0 b Q) := by
  rfl
@[go_sem ↓] theorem seqQ_nm {b : C} : seqQ P st0 b Q .nm ρ st = W P st0 b ρ st Q := rfl
@[go_sem ↓] theorem seqQ_ex {b : C} {i : Nat} : seqQ P st0 b Q (.ex i) ρ st = Q (.ex i) ρ st := rfl
@[go_sem ↓] theorem seqQ_rt {b : C} : seqQ P st0 b Q .rt ρ st = Q .rt ρ st := rfl
@[go_sem ↓] theorem W_cd {c : A} {t e : C} : W P st0 (.cd c t e) ρ st Q = condW (ev ρ c) (W P st0 t ρ st Q) (W P st0 e ρ st Q) := by
  rw [W]; unfold condW; rfl
def blkQ (id : Nat) (Q : X → Env → Store → Prop) : X → Env → Store → Prop := fun e ρ st => match e with
  | .ex i => if i = id then Q .nm ρ st else Q (.ex i) ρ st
  | e => Q e ρ st
@[go_sem ↓] theorem W_bl {id : Nat} {b : C} : W P st0 (.bl id b) ρ st Q = W P st0 b ρ st (blkQ id Q) := by
  rfl
@[go_sem ↓] theorem blkQ_nm {i : Nat} : blkQ i Q .nm ρ st = Q .nm ρ st := rfl
@[go_sem ↓] theorem blkQ_ex {i j : Nat} : blkQ i Q (.ex j) ρ st = if j = i then Q .nm ρ st else Q (.ex j) ρ st := rfl
@[go_sem ↓] theorem blkQ_rt {i : Nat} : blkQ i Q .rt ρ st = Q .rt ρ st := rfl
@[go_sem ↓] theorem W_lp {b : C} : W P st0 (.lp b) ρ st Q = LoopC P st0 b ρ st Q ⟨⟩ := rfl
@[go_sem ↓] theorem W_xi {i : Nat} : W P st0 (.xi i) ρ st Q = Q (.ex i) ρ st := rfl
@[go_sem ↓] theorem W_rt : W P st0 .rt ρ st Q = Q .rt ρ st := rfl
@[go_sem ↓] theorem endW_nm {rs : List ResultVar} : endW P st0 rs K .nm ρ st = retW P ρ st rs fun vs => Fin st0 K (ret1 vs) st := rfl
@[go_sem ↓] theorem endW_rt {rs : List ResultVar} : endW P st0 rs K .rt ρ st = retW P ρ st rs fun vs => Fin st0 K (ret1 vs) st := rfl
@[go_sem ↓] theorem endW_ex {rs : List ResultVar} {i : Nat} : endW P st0 rs K (.ex i) ρ st = False := rfl
@[go_sem ↓] theorem retW_nil {K : List V → Prop} : retW P ρ st [] K = K [] := rfl
@[go_sem ↓] theorem retW_tmp {t : Nat} {r : List ResultVar} {K : List V → Prop} : retW P ρ st (.tmp t :: r) K = retW P ρ st r fun vs => K (lk ρ t :: vs) := rfl
@[go_sem ↓] theorem retW_cell {a t : Nat} {r : List ResultVar} {K : List V → Prop} : retW P ρ st (.cell a t :: r) K = opW P ρ st (.ld t (.t a)) fun v _ => retW P ρ st r fun vs => K (v :: vs) := rfl

@[go_sem ↓] theorem opsW_nil : opsW P [] ρ st KE = KE ρ st := rfl
@[go_sem ↓] theorem opsW_some {d : Nat} {o : O} {r : List CO} : opsW P (⟨some d, o, none⟩ :: r) ρ st KE = opW P ρ st o fun v st' => opsW P r ((d, v) :: ρ) st' KE := rfl
@[go_sem ↓] theorem opsW_none {o : O} {r : List CO} : opsW P (⟨none, o, none⟩ :: r) ρ st KE = opW P ρ st o fun _ st' => opsW P r ρ st' KE := rfl
@[go_sem ↓] theorem opsW_gsome {d j : Nat} {b : Bool} {o : O} {r : List CO} : opsW P (⟨some d, o, some (j, b)⟩ :: r) ρ st KE = guardH b (lk ρ j) (opW P ρ st o fun v st' => opsW P r ((d, v) :: ρ) st' KE) (opsW P r ((d, .un) :: ρ) st KE) := rfl
@[go_sem ↓] theorem opsW_gnone {j : Nat} {b : Bool} {o : O} {r : List CO} : opsW P (⟨none, o, some (j, b)⟩ :: r) ρ st KE = guardH b (lk ρ j) (opW P ρ st o fun _ st' => opsW P r ρ st' KE) (opsW P r ρ st KE) := rfl

@[go_sem ↓] theorem gW_some {d : Nat} {o : O} : gW P ⟨some d, o, none⟩ ρ st KE = opW P ρ st o fun v st' => KE ((d, v) :: ρ) st' := rfl
@[go_sem ↓] theorem gW_none {o : O} : gW P ⟨none, o, none⟩ ρ st KE = opW P ρ st o fun _ st' => KE ρ st' := rfl
@[go_sem ↓] theorem gW_gsome {d j : Nat} {b : Bool} {o : O} : gW P ⟨some d, o, some (j, b)⟩ ρ st KE = guardH b (lk ρ j) (opW P ρ st o fun v st' => KE ((d, v) :: ρ) st') (KE ((d, .un) :: ρ) st) := rfl
@[go_sem ↓] theorem gW_gnone {j : Nat} {b : Bool} {o : O} : gW P ⟨none, o, some (j, b)⟩ ρ st KE = guardH b (lk ρ j) (opW P ρ st o fun _ st' => KE ρ st') (KE ρ st) := rfl

/-- One answer, the store as it was. -/
def oneW (P : Program) (ρ : Env) (st : Store) (o : O) (K : V → Prop) : Prop := ∃ v, opW P ρ st o (fun v' st' => v' = v ∧ st' = st) ∧ K v
@[go_sem ↓] theorem hW_nil {KR : Env → Prop} : hW P [] ρ st KR = KR ρ := rfl
@[go_sem ↓] theorem hW_some {d : Nat} {o : O} {r : List CO} {KR : Env → Prop} : hW P (⟨some d, o, none⟩ :: r) ρ st KR = oneW P ρ st o fun v => hW P r ((d, v) :: ρ) st KR := rfl
@[go_sem ↓] theorem hW_none {o : O} {r : List CO} {KR : Env → Prop} : hW P (⟨none, o, none⟩ :: r) ρ st KR = oneW P ρ st o fun _ => hW P r ρ st KR := rfl
@[go_sem ↓] theorem hW_gsome {d j : Nat} {b : Bool} {o : O} {r : List CO} {KR : Env → Prop} : hW P (⟨some d, o, some (j, b)⟩ :: r) ρ st KR = guardH b (lk ρ j) (oneW P ρ st o fun v => hW P r ((d, v) :: ρ) st KR) (hW P r ((d, .un) :: ρ) st KR) := rfl
@[go_sem ↓] theorem hW_gnone {j : Nat} {b : Bool} {o : O} {r : List CO} {KR : Env → Prop} : hW P (⟨none, o, some (j, b)⟩ :: r) ρ st KR = guardH b (lk ρ j) (oneW P ρ st o fun _ => hW P r ρ st KR) (hW P r ρ st KR) := rfl

@[go_sem ↓] theorem dW_dn : dW P .dn ρ st KE = KE ρ st := rfl
@[go_sem ↓] theorem dW_e {co : CO} {r : DC} : dW P (.e co r) ρ st KE = gW P co ρ st fun ρ' st' => dW P r ρ' st' KE := rfl
@[go_sem ↓] theorem dW_h {cos : List CO} {r : DC} : dW P (.h cos r) ρ st KE = hW P cos ρ st fun ρ' => dW P r ρ' st KE := rfl
@[go_sem ↓] theorem dW_a1 {co : CO} {r : DC} : dW P (.a co r .nx) ρ st KE = gW P co ρ st fun ρ' st' => dW P r ρ' st' KE := by simp [dW]
@[go_sem ↓] theorem dW_a2 {co co' : CO} {r r' o' : DC} : dW P (.a co r (.a co' r' o')) ρ st KE = ((gW P co ρ st fun ρ' st' => dW P r ρ' st' KE) ∧ dW P (.a co' r' o') ρ st KE) := rfl
end

@[go_sem] theorem condW_x {b : Bool} {T E : Prop} : condW (.x (.bool b)) T E = gcase b T E := rfl
@[go_sem] theorem guardH_t {t : Bool} {T E : Prop} : guardH true (.x (.bool t)) T E = gcase t T E := by unfold guardH guardP; simp
@[go_sem] theorem guardH_f {t : Bool} {T E : Prop} : guardH false (.x (.bool t)) T E = gcase t E T := by unfold guardH guardP gcase; cases t <;> simp

attribute [go_sem] bytesV ret1 envOf evs evps cvv fillV wr ones one1 V.cells rng sel V.pure V.pure.all V.flat V.flat.all V.under V.under.all V.frz V.frz.all V.view V.view.all
@[go_sem ↓] theorem lk_cons {i k : Nat} {v : V} {r : Env} : lk ((i, v) :: r) k = if i = k then v else lk r k := rfl

attribute [go_sem] beq_true beq_false Bool.not_true Bool.not_false Bool.not_not Bool.true_and Bool.and_true Bool.false_and Bool.and_false Bool.true_or Bool.or_true Bool.false_or Bool.or_false cond_true cond_false
attribute [go_sem] List.length_cons List.length_nil List.map_cons List.map_nil List.cons_append List.nil_append List.append_assoc List.length_append List.append_nil List.length_set List.take_zero List.take_succ_cons List.take_nil List.drop_zero List.drop_succ_cons List.drop_nil
attribute [go_sem] List.getElem?_cons_zero List.getElem?_cons_succ List.set_cons_zero List.set_cons_succ List.flatten_cons List.flatten_nil List.replicate_zero List.replicate_succ
attribute [go_sem] true_and and_true false_and and_false and_self true_or or_true false_or or_false implies_true forall_const exists_eq_left exists_eq_left' exists_eq_right exists_eq_right' exists_and_left exists_and_right and_assoc not_true_eq_false not_false_eq_true ne_eq eq_self if_true if_false
attribute [go_sem] Option.some.injEq Option.map_some Option.map_none Option.bind_some Option.bind_none Option.isSome_some Option.isSome_none Option.getD_some Option.getD_none
attribute [go_sem] Int.toNat_natCast Int.toNat_zero Nat.zero_add Nat.add_zero Nat.zero_mul Nat.mul_one Nat.one_mul decide_true decide_false Bool.true_eq_false Bool.false_eq_true

@[go_sem ↓] theorem ev_t (ρ : Env) (n : Nat) : ev ρ (.t n) = lk ρ n := rfl
@[go_sem ↓] theorem ev_k (ρ : Env) (v : Value) : ev ρ (.k v) = cvv v := rfl
@[go_sem ↓] theorem ev_f (ρ : Env) (n : Nat) : ev ρ (.f n) = .fn (.func n) [] := rfl
@[go_sem ↓] theorem ev_g (ρ : Env) (n : Nat) : ev ρ (.g n) = (glk globs n).getD (.x (.pointer (some ⟨n, 0, none⟩))) := rfl

/-! ### Operations -/

def optW {α : Type} (x : Option α) (F : α → Prop) (_ : Tag F := ⟨⟩) : Prop :=
  match x with
  | some a => F a
  | none => False
@[go_sem] theorem optW_some {α : Type} {a : α} {F : α → Prop} : optW (some a) F = F a := rfl
@[go_sem] theorem optW_none {α : Type} {F : α → Prop} : optW none F = False := rfl
def caseO {α : Type} (x : Option α) (F : α → Prop) (G : Prop) (_ : Tag (F, G) := ⟨⟩) : Prop :=
  match x with
  | some a => F a
  | none => G
@[go_sem] theorem caseO_some {α : Type} {a : α} {F : α → Prop} {G : Prop} : caseO (some a) F G = F a := rfl
@[go_sem] theorem caseO_none {α : Type} {F : α → Prop} {G : Prop} : caseO none F G = G := rfl
def getH (st : Store) (id ver : Nat) (K : Blk → Prop) (_ : Tag K := ⟨⟩) : Prop := getB st id ver K
/-- By what a value is. -/
def onX (x : V) (F : Value → Prop) (_ : Tag F := ⟨⟩) : Prop :=
  match x with
  | .x v => F v
  | _ => False
@[go_sem] theorem onX_bad {F : Value → Prop} : onX .bad F = False := rfl
@[go_sem] theorem onX_x {v : Value} {F : Value → Prop} : onX (.x v) F = F v := rfl
def onInt (x : Value) (F : Int → Prop) (_ : Tag F := ⟨⟩) : Prop :=
  match x with
  | .int _ n => F n
  | _ => False
@[go_sem] theorem onInt_int {k : IntKind} {n : Int} {F : Int → Prop} : onInt (.int k n) F = F n := rfl
def onAgg (x : V) (F : List V → Prop) (_ : Tag F := ⟨⟩) : Prop :=
  match x with
  | .agg cs => F cs
  | _ => False
@[go_sem] theorem onAgg_agg {cs : List V} {F : List V → Prop} : onAgg (.agg cs) F = F cs := rfl
def onTup (x : V) (F : List V → Prop) (_ : Tag F := ⟨⟩) : Prop :=
  match x with
  | .tup cs => F cs
  | _ => False
@[go_sem] theorem onTup_tup {cs : List V} {F : List V → Prop} : onTup (.tup cs) F = F cs := rfl

section
variable {P : Program} {st : Store} {ρ : Env} {K : V → Store → Prop}

@[go_sem ↓] theorem opW_mv {x : A} : opW P ρ st (.mv x) K = bindV (ev ρ x) st K := rfl
def pkW (c x y : V) (st : Store) (K : V → Store → Prop) (_ : Tag K := ⟨⟩) : Prop :=
  match c with
  | .x (.bool t) => K (sel t x y) st
  | _ => False
@[go_sem] theorem pkW_bb {t u v : Bool} : pkW (.x (.bool t)) (.x (.bool u)) (.x (.bool v)) st K = K (.x (.bool (bif t then u else v))) st := rfl
@[go_sem] theorem pkW_ff {t : Bool} {x : V} : pkW (.x (.bool t)) .un x st K = gcase t (K .un st) (K x st) := by
  cases t <;> simp only [gcase_true, gcase_false] <;> cases x with
  | x v => cases v <;> rfl
  | _ => rfl
@[go_sem] theorem pkW_fb {t : Bool} {x : V} : pkW (.x (.bool t)) x .un st K = gcase t (K x st) (K .un st) := by
  cases t <;> simp only [gcase_true, gcase_false] <;> cases x with
  | x v => cases v <;> rfl
  | _ => rfl
theorem pkW_gen {t : Bool} {x y : V} : pkW (.x (.bool t)) x y st K = K (sel t x y) st := rfl
@[go_sem ↓] theorem opW_pk {c a b : A} : opW P ρ st (.pk c a b) K = pkW (ev ρ c) (ev ρ a) (ev ρ b) st K := by simp only [opW]; unfold pkW; rfl
@[go_sem ↓] theorem opW_al {t : Nat} : opW P ρ st (.al t) K = optW (inf P t) fun q => ones (q.2.2.2.map .x) = true ∧ bindV (.ptr st.length 0 0) (st ++ [⟨2, 0, 1, q.2.2.2.map .x⟩]) K := by
  simp only [opW]; rcases inf P t with _ | ⟨a, b, c, d⟩ <;> rfl
def boxW (v : V) (st : Store) (K : V → Store → Prop) (_ : Tag K := ⟨⟩) : Prop := ones v.cells = true ∧ K (.ptr st.length 0 0) (st ++ [⟨2, 0, 1, v.cells⟩])
@[go_sem] theorem boxW_eq {v : V} : boxW v st K = (ones v.cells = true ∧ bindV (.ptr st.length 0 0) (st ++ [⟨2, 0, 1, v.cells⟩]) K) := rfl
@[go_sem ↓] theorem opW_bx {t : Nat} {x : A} : opW P ρ st (.bx t x) K = boxW (ev ρ x) st K := rfl
@[go_sem ↓] theorem opW_bd {t : Nat} {ps : List (Nat × A)} : opW P ρ st (.bd t ps) K = optW (inf P t) fun q => optW (flds P t) fun L => optW (fillV (fun i => L[i]?) (q.2.2.2.map .x) (evps ρ ps)) fun cs => bindV (.agg cs) st K := by
  simp only [opW]; rcases inf P t with _ | ⟨a, b, c, d⟩ <;> simp only [optW]
  rcases flds P t with _ | L <;> simp only [optW]
  generalize fillV _ _ _ = z; cases z <;> rfl
@[go_sem ↓] theorem opW_bs {t n : Nat} {ps : List (Nat × A)} : opW P ρ st (.bs t n ps) K = optW (el P t) fun e => optW (inf P e) fun q => q.2.2.2.length = q.1 ∧ n * q.1 ≤ 16777216 ∧
    optW (fillV (fun i => some (i * q.1, q.1)) ((List.replicate n (q.2.2.2.map .x)).flatten) (evps ρ ps)) fun cs => ones cs = true ∧ bindV (.ref st.length 0 0 n) (st ++ [⟨2, 0, q.1, cs⟩]) K := by
  simp only [opW]; rcases el P t with _ | e <;> simp only [optW]
  rcases inf P e with _ | ⟨a, b, c, d⟩ <;> simp only
  generalize fillV _ _ _ = z; cases z <;> rfl
@[go_sem ↓] theorem opW_bz {t n : Nat} {ps : List (Nat × A)} : opW P ρ st (.bz t n ps) K = optW (el P t) fun e => optW (inf P e) fun q => q.2.2.2.length = q.1 ∧ n * q.1 ≤ 16777216 ∧
    optW (fillV (fun i => some (i * q.1, q.1)) ((List.replicate n (q.2.2.2.map .x)).flatten) (evps ρ ps)) fun cs => ones cs = true ∧ V.pure.all cs = true ∧ bindV (.sl n q.1 (cut n q.1 fun i j => (cs[i * q.1 + j]?).getD .bad)) st K := by
  simp only [opW]; rcases el P t with _ | e <;> simp only [optW]
  rcases inf P e with _ | ⟨a, b, c, d⟩ <;> simp only
  generalize fillV _ _ _ = z; cases z <;> rfl
/-- A load from where a pointer leads. -/
def ldW (n : Nat) (ag : Bool) (x : V) (st : Store) (K : V → Store → Prop) (_ : Tag K := ⟨⟩) : Prop :=
  match x with
  | .ip m sz f i j => if ag then j + n ≤ sz ∧ K (.agg (rng (f i) j n)) st else j < sz ∧ K (f i j) st
  | .ptr id ver off => getB st id ver fun k => if ag then off + n ≤ k.cells.length ∧ K (.agg ((k.cells.drop off).take n)) st else
      match k.cells[off]? with
      | some c => K c st
      | none => False
  | _ => False
@[go_sem] theorem ldW_ip1 {n m sz : Nat} {f : Nat → Nat → V} {i j : Nat} : ldW n true (.ip m sz f i j) st K = (j + n ≤ sz ∧ bindV (.agg (rng (f i) j n)) st K) := by simp only [ldW]; rfl
@[go_sem] theorem ldW_ip0 {n m sz : Nat} {f : Nat → Nat → V} {i j : Nat} : ldW n false (.ip m sz f i j) st K = (j < sz ∧ bindV (f i j) st K) := by simp only [ldW]; rfl
@[go_sem] theorem ldW_ptr1 {n id ver off : Nat} : ldW n true (.ptr id ver off) st K = getH st id ver fun k => off + n ≤ k.cells.length ∧ bindV (.agg ((k.cells.drop off).take n)) st K := by simp only [ldW]; rfl
@[go_sem] theorem ldW_ptr0 {n id ver off : Nat} : ldW n false (.ptr id ver off) st K = getH st id ver fun k => optW (k.cells[off]?) fun c => bindV c st K := by
  have : (fun k : Blk => match k.cells[off]? with | some c => K c st | none => False) = fun k => optW (k.cells[off]?) fun c => bindV c st K := by
    funext k; cases k.cells[off]? <;> rfl
  exact congrArg (getB st id ver) this
@[go_sem ↓] theorem opW_ld {t : Nat} {x : A} : opW P ρ st (.ld t x) K = optW (inf P t) fun q => ldW q.1 q.2.2.1 (ev ρ x) st K := by
  simp only [opW]; rcases inf P t with _ | ⟨a, b, c, d⟩ <;> simp only [optW, ldW]; rfl
/-- A store to where a pointer leads. -/
def stW (n : Nat) (x v : V) (st : Store) (K : V → Store → Prop) (_ : Tag K := ⟨⟩) : Prop :=
  match x with
  | .ptr id ver off => getB st id ver fun k => v.cells.length = n ∧ off + n ≤ k.cells.length ∧ ones v.cells = true ∧ K .bad (st.set id { k with cells := wr k.cells off v.cells })
  | _ => False
@[go_sem] theorem stW_ptr {n id ver off : Nat} {v : V} : stW n (.ptr id ver off) v st K = getH st id ver fun k => v.cells.length = n ∧ off + n ≤ k.cells.length ∧ ones v.cells = true ∧ bindV .bad (st.set id { k with cells := wr k.cells off v.cells }) K := rfl
@[go_sem ↓] theorem opW_st {t : Nat} {a v : A} : opW P ρ st (.st t a v) K = optW (inf P t) fun q => stW q.1 (ev ρ a) (ev ρ v) st K := by
  simp only [opW]; rcases inf P t with _ | ⟨a, b, c, d⟩ <;> simp only [optW, stW]; rfl
def ncW (x : V) (st : Store) (K : V → Store → Prop) (_ : Tag K := ⟨⟩) : Prop :=
  match x with
  | .ip m sz f i j => K (.ip m sz f i j) st
  | .ptr id ver off => getB st id ver fun _ => K (.ptr id ver off) st
  | .fn (.func g) cs => K (.fn (.func g) cs) st
  | _ => False
@[go_sem] theorem ncW_ip {m sz : Nat} {f : Nat → Nat → V} {i j : Nat} : ncW (.ip m sz f i j) st K = K (.ip m sz f i j) st := rfl
@[go_sem] theorem ncW_ptr {id ver off : Nat} : ncW (.ptr id ver off) st K = getH st id ver fun _ => K (.ptr id ver off) st := rfl
@[go_sem] theorem ncW_fn {g : Nat} {cs : List V} : ncW (.fn (.func g) cs) st K = K (.fn (.func g) cs) st := rfl
@[go_sem ↓] theorem opW_nc {x : A} : opW P ρ st (.nc x) K = ncW (ev ρ x) st K := by simp only [opW]; unfold ncW; rfl
def unH (op : UnOp) (x : Value) (K : Value → Prop) (_ : Tag K := ⟨⟩) : Prop := unW op x K
def binH (P : Program) (op : BinOp) (t : Nat) (x y : Value) (K : Value → Prop) (_ : Tag K := ⟨⟩) : Prop := binW P op t x y K
def biK (P : Program) (op : BinOp) (t : Nat) (x y : V) (st : Store) (K : V → Store → Prop) (_ : Tag K := ⟨⟩) : Prop :=
  match x, y with
  | .x a, .x b => binW P op t a b fun v => K (.x v) st
  | .sl n _ _, .x (.slice none 0 0) => (el P t).isSome = true ∧ ∀ b : Bool, (b = true → n = 0) → nilEq op b fun v => K (.x v) st
  | .ref id ver _ _, .x (.slice none 0 0) => (el P t).isSome = true ∧ getB st id ver fun k => nilEq op (k.kind == 1) fun v => K (.x v) st
  | _, _ => False
@[go_sem] theorem biK_x {op : BinOp} {t : Nat} {a b : Value} : biK P op t (.x a) (.x b) st K = binH P op t a b fun v => bindV (.x v) st K := rfl
@[go_sem] theorem biK_sl {op : BinOp} {t n sz : Nat} {f : Nat → Nat → V} : biK P op t (.sl n sz f) (.x (.slice none 0 0)) st K = ((el P t).isSome = true ∧ ∀ b : Bool, (b = true → n = 0) → nilEq op b fun v => bindV (.x v) st K) := rfl
@[go_sem] theorem biK_ref {op : BinOp} {t id ver off n : Nat} : biK P op t (.ref id ver off n) (.x (.slice none 0 0)) st K = ((el P t).isSome = true ∧ getH st id ver fun k => nilEq op (k.kind == 1) fun v => bindV (.x v) st K) := rfl
@[go_sem] theorem nilEq_eql {b : Bool} {K : Value → Prop} : nilEq .eql b K = K (.bool b) := rfl
@[go_sem] theorem nilEq_neq {b : Bool} {K : Value → Prop} : nilEq .neq b K = K (.bool !b) := rfl
@[go_sem ↓] theorem opW_bi {op : BinOp} {t : Nat} {x y : A} : opW P ρ st (.bi op t x y) K = biK P op t (ev ρ x) (ev ρ y) st K := by
  simp only [opW]; unfold biK; rfl
@[go_sem] theorem bin_add {t : Nat} {k k' : IntKind} {a b : Int} {K : Value → Prop} : binH P .add t (.int k a) (.int k' b) K = (k = k' ∧ K (.int k (k.wrap (a + b)))) := rfl
@[go_sem] theorem bin_sub {t : Nat} {k k' : IntKind} {a b : Int} {K : Value → Prop} : binH P .sub t (.int k a) (.int k' b) K = (k = k' ∧ K (.int k (k.wrap (a - b)))) := rfl
@[go_sem] theorem bin_mul {t : Nat} {k k' : IntKind} {a b : Int} {K : Value → Prop} : binH P .mul t (.int k a) (.int k' b) K = (k = k' ∧ K (.int k (k.wrap (a * b)))) := rfl
@[go_sem] theorem bin_and {t : Nat} {k k' : IntKind} {a b : Int} {K : Value → Prop} : binH P .and t (.int k a) (.int k' b) K = (k = k' ∧ K (.int k (bitsV .and k a b))) := rfl
@[go_sem] theorem bin_or {t : Nat} {k k' : IntKind} {a b : Int} {K : Value → Prop} : binH P .or t (.int k a) (.int k' b) K = (k = k' ∧ K (.int k (bitsV .or k a b))) := rfl
@[go_sem] theorem bin_xor {t : Nat} {k k' : IntKind} {a b : Int} {K : Value → Prop} : binH P .xor t (.int k a) (.int k' b) K = (k = k' ∧ K (.int k (bitsV .xor k a b))) := rfl
@[go_sem] theorem bin_andNot {t : Nat} {k k' : IntKind} {a b : Int} {K : Value → Prop} : binH P .andNot t (.int k a) (.int k' b) K = (k = k' ∧ K (.int k (bitsV .andNot k a b))) := rfl
@[go_sem] theorem bin_quo {t : Nat} {k k' : IntKind} {a b : Int} {K : Value → Prop} : binH P .quo t (.int k a) (.int k' b) K = (k = k' ∧ b ≠ 0 ∧ K (.int k (k.wrap (a.tdiv b)))) := rfl
@[go_sem] theorem bin_rem {t : Nat} {k k' : IntKind} {a b : Int} {K : Value → Prop} : binH P .rem t (.int k a) (.int k' b) K = (k = k' ∧ b ≠ 0 ∧ K (.int k (a.tmod b))) := rfl
@[go_sem] theorem bin_shl {t : Nat} {k k' : IntKind} {a b : Int} {K : Value → Prop} : binH P .shl t (.int k a) (.int k' b) K = (0 ≤ b ∧ K (.int k (k.wrap (a * 2 ^ (min b.toNat k.bits))))) := rfl
@[go_sem] theorem bin_shr {t : Nat} {k k' : IntKind} {a b : Int} {K : Value → Prop} : binH P .shr t (.int k a) (.int k' b) K = (0 ≤ b ∧ K (.int k (a.fdiv (2 ^ (min b.toNat k.bits))))) := rfl
@[go_sem] theorem bin_eql {t : Nat} {k k' : IntKind} {a b : Int} {K : Value → Prop} : binH P .eql t (.int k a) (.int k' b) K = (k = k' ∧ K (.bool (a == b))) := rfl
@[go_sem] theorem bin_neq {t : Nat} {k k' : IntKind} {a b : Int} {K : Value → Prop} : binH P .neq t (.int k a) (.int k' b) K = (k = k' ∧ K (.bool (a != b))) := rfl
@[go_sem] theorem bin_lss {t : Nat} {k k' : IntKind} {a b : Int} {K : Value → Prop} : binH P .lss t (.int k a) (.int k' b) K = (k = k' ∧ K (.bool (decide (a < b)))) := rfl
@[go_sem] theorem bin_leq {t : Nat} {k k' : IntKind} {a b : Int} {K : Value → Prop} : binH P .leq t (.int k a) (.int k' b) K = (k = k' ∧ K (.bool (decide (a ≤ b)))) := rfl
@[go_sem] theorem bin_gtr {t : Nat} {k k' : IntKind} {a b : Int} {K : Value → Prop} : binH P .gtr t (.int k a) (.int k' b) K = (k = k' ∧ K (.bool (decide (a > b)))) := rfl
@[go_sem] theorem bin_geq {t : Nat} {k k' : IntKind} {a b : Int} {K : Value → Prop} : binH P .geq t (.int k a) (.int k' b) K = (k = k' ∧ K (.bool (decide (a ≥ b)))) := rfl
@[go_sem] theorem bin_sadd {t : Nat} {a b : ByteArray} {K : Value → Prop} : binH P .add t (.string a) (.string b) K = (a.size + b.size ≤ 9223372036854775807 ∧ K (.string (a ++ b))) := rfl
@[go_sem] theorem bin_seql {t : Nat} {a b : ByteArray} {K : Value → Prop} : binH P .eql t (.string a) (.string b) K = K (.bool (a.toList == b.toList)) := rfl
@[go_sem] theorem bin_sneq {t : Nat} {a b : ByteArray} {K : Value → Prop} : binH P .neq t (.string a) (.string b) K = K (.bool !(a.toList == b.toList)) := rfl
@[go_sem] theorem bin_beql {t : Nat} {a b : Bool} {K : Value → Prop} : binH P .eql t (.bool a) (.bool b) K = (P.underlying t = some .bool ∧ K (.bool (a == b))) := rfl
@[go_sem] theorem bin_bneq {t : Nat} {a b : Bool} {K : Value → Prop} : binH P .neq t (.bool a) (.bool b) K = (P.underlying t = some .bool ∧ K (.bool !(a == b))) := rfl
@[go_sem] theorem un_not {b : Bool} {K : Value → Prop} : unH .not (.bool b) K = K (.bool !b) := rfl
@[go_sem] theorem un_neg {k : IntKind} {n : Int} {K : Value → Prop} : unH .neg (.int k n) K = K (.int k (k.wrap (0 - n))) := rfl
@[go_sem ↓] theorem opW_un {op : UnOp} {x : A} : opW P ρ st (.un op x) K = onX (ev ρ x) fun a => unH op a fun v => bindV (.x v) st K := by
  simp only [opW]; unfold onX bindV; cases ev ρ x <;> rfl
def cvW (P : Program) (s d : Nat) (x : V) (st : Store) (K : V → Store → Prop) (_ : Tag K := ⟨⟩) : Prop :=
  match x with
  | .x (.int _ n) => match intT P d with
      | some k => (P.underlying s).isSome = true ∧ K (.x (.int k (k.wrap n))) st
      | none => P.underlying d = some .string ∧ (P.underlying s).isSome = true ∧ K (.x (.string (Utf8.encode n))) st
  | .x (.string s') => P.underlying d = some .string ∧ (intT P s = none) ∧ (P.underlying s).isSome = true ∧ K (.x (.string s')) st
  | c => cvB P st s d c fun v => K v st
@[go_sem] theorem cvW_int {s d : Nat} {ik : IntKind} {n : Int} : cvW P s d (.x (.int ik n)) st K = caseO (intT P d) (fun k => (P.underlying s).isSome = true ∧ bindV (.x (.int k (k.wrap n))) st K) (P.underlying d = some .string ∧ (P.underlying s).isSome = true ∧ bindV (.x (.string (Utf8.encode n))) st K) := by
  simp only [cvW, caseO, bindV]; cases intT P d <;> rfl
@[go_sem] theorem cvW_str {s d : Nat} {b : ByteArray} : cvW P s d (.x (.string b)) st K = (P.underlying d = some .string ∧ (intT P s = none) ∧ (P.underlying s).isSome = true ∧ bindV (.x (.string b)) st K) := rfl
/-- The cells of a list of bytes. -/
def cvC (P : Program) (st : Store) (s d : Nat) (c : V) (K : V → Store → Prop) (_ : Tag K := ⟨⟩) : Prop := cellsOf st 1 c fun cs _ => optW (bytesV cs) fun bs => bindV (.x (.string ⟨bs.toArray⟩)) st K
theorem cvB_eq {s d : Nat} (c : V) (hns : ∀ b, c ≠ .x (.string b)) : cvB P st s d c (fun v => K v st) = (P.underlying d = some .string ∧ optW (el P s) fun e => intT P e = some .u8 ∧ cvC P st s d c K) := by
  unfold cvB cvC
  cases hel : el P s with
  | none => rfl
  | some e =>
    simp only [optW]
    congr 2
    refine congrArg (cellsOf st 1 c) (funext fun cs => funext fun n => ?_)
    cases bytesV cs <;> rfl
@[go_sem] theorem cvW_sl {s d n sz : Nat} {f : Nat → Nat → V} : cvW P s d (.sl n sz f) st K = (P.underlying d = some .string ∧ optW (el P s) fun e => intT P e = some .u8 ∧ cvC P st s d (.sl n sz f) K) := cvB_eq (.sl n sz f) (fun b h => by cases h)
@[go_sem] theorem cvW_ref {s d id ver off n : Nat} : cvW P s d (.ref id ver off n) st K = (P.underlying d = some .string ∧ optW (el P s) fun e => intT P e = some .u8 ∧ cvC P st s d (.ref id ver off n) K) := cvB_eq (.ref id ver off n) (fun b h => by cases h)
@[go_sem] theorem cvW_nil {s d : Nat} : cvW P s d (.x (.slice none 0 0)) st K = (P.underlying d = some .string ∧ optW (el P s) fun e => intT P e = some .u8 ∧ cvC P st s d (.x (.slice none 0 0)) K) := cvB_eq (.x (.slice none 0 0)) (fun b h => by cases h)
@[go_sem] theorem cvC_sl {s d n sz : Nat} {f : Nat → Nat → V} : cvC P st s d (.sl n sz f) K = (sz = 1 ∧ optW (bytesV ((List.range n).flatMap fun i => rng (f i) 0 1)) fun bs => bindV (.x (.string ⟨bs.toArray⟩)) st K) := rfl
@[go_sem] theorem cvC_ref {s d id ver off n : Nat} : cvC P st s d (.ref id ver off n) K = getH st id ver fun k => k.sz = 1 ∧ optW (bytesV ((k.cells.drop (off * 1)).take (n * 1))) fun bs => bindV (.x (.string ⟨bs.toArray⟩)) st K := rfl
@[go_sem] theorem cvC_nil {s d : Nat} : cvC P st s d (.x (.slice none 0 0)) K = bindV (.x (.string ⟨#[]⟩)) st K := rfl
@[go_sem ↓] theorem opW_cv {s d : Nat} {x : A} : opW P ρ st (.cv s d x) K = cvW P s d (ev ρ x) st K := by
  simp only [opW]; unfold cvW; rfl
@[go_sem ↓] theorem opW_mf {g : Fn} {cs : List A} : opW P ρ st (.mf g cs) K = bindV (.fn g (evs ρ cs)) st K := rfl
def msK (sz by' : Nat) (z : List Value) (l c : V) (st : Store) (K : V → Store → Prop) (_ : Tag K := ⟨⟩) : Prop :=
  match l, c with
  | .x (.int .i64 l), .x (.int .i64 c) => z.length = sz ∧ 0 < sz ∧ ones (z.map .x) = true ∧ 0 ≤ l ∧ l ≤ c ∧ c ≤ 9223372036854775807 ∧ c * by' ≤ 140737488355328 ∧
            K (.ref st.length 0 0 l.toNat) (st ++ [⟨2, 0, sz, (List.replicate l.toNat (z.map .x)).flatten⟩])
  | _, _ => False
@[go_sem] theorem msK_ii {sz by' : Nat} {z : List Value} {l c : Int} : msK sz by' z (.x (.int .i64 l)) (.x (.int .i64 c)) st K = (z.length = sz ∧ 0 < sz ∧ ones (z.map .x) = true ∧ 0 ≤ l ∧ l ≤ c ∧ c ≤ 9223372036854775807 ∧ c * by' ≤ 140737488355328 ∧
            bindV (.ref st.length 0 0 l.toNat) (st ++ [⟨2, 0, sz, (List.replicate l.toNat (z.map .x)).flatten⟩]) K) := rfl
@[go_sem ↓] theorem opW_ms {t : Nat} {l c : A} : opW P ρ st (.ms t l c) K = optW (el P t) fun e => optW (inf P e) fun q => msK q.1 q.2.1 q.2.2.2 (ev ρ l) (ev ρ c) st K := by
  simp only [opW]; rcases el P t with _ | e <;> simp only [optW]
  rcases inf P e with _ | ⟨a, b, c, d⟩ <;> simp only
  unfold msK; rfl
def slH (P : Program) (st : Store) (t : Nat) (x : V) (lo hi : Option V) (K : V → Prop) (_ : Tag K := ⟨⟩) : Prop := slW P st t x lo hi K
@[go_sem ↓] theorem opW_sl {t : Nat} {x : A} {lo hi : Option A} : opW P ρ st (.sl t x lo hi) K = slH P st t (ev ρ x) (lo.map (ev ρ)) (hi.map (ev ρ)) fun v => bindV v st K := rfl
@[go_sem] theorem bdW_none {d : Int} : bdW d none = some d := rfl
@[go_sem] theorem bdW_some {d n : Int} {k : IntKind} : bdW d (some (.x (.int k n))) = some n := rfl
@[go_sem] theorem slW_str {t : Nat} {s : ByteArray} {lo hi : Option V} {K : V → Prop} : slH P st t (.x (.string s)) lo hi K = (P.underlying t = some .string ∧ optW (bdW 0 lo) fun l => optW (bdW s.size hi) fun h =>
    0 ≤ l ∧ l ≤ h ∧ h ≤ s.size ∧ K (.x (.string (s.extract l.toNat h.toNat)))) := by
  simp only [slH, slW]; unfold optW; cases bdW 0 lo <;> cases bdW s.size hi <;> rfl
@[go_sem] theorem slW_sl {t n sz : Nat} {f : Nat → Nat → V} {lo hi : Option V} {K : V → Prop} : slH P st t (.sl n sz f) lo hi K = (((el P t).bind (inf P)).map (·.1) = some sz ∧ optW (bdW 0 lo) fun l => optW (bdW n hi) fun h =>
    0 ≤ l ∧ l ≤ h ∧ h ≤ n ∧ K (.sl (h - l).toNat sz (cut (h - l).toNat sz fun i => f (l.toNat + i)))) := by
  simp only [slH, slW]; unfold optW; cases bdW 0 lo <;> cases bdW n hi <;> rfl
@[go_sem] theorem slW_nil {t : Nat} {lo hi : Option V} {K : V → Prop} : slH P st t (.x (.slice none 0 0)) lo hi K = (((el P t).bind (inf P)).isSome = true ∧ optW (bdW 0 lo) fun l => optW (bdW 0 hi) fun h => l = 0 ∧ h = 0 ∧ K (.x (.slice none 0 0))) := by
  simp only [slH, slW]; unfold optW; cases bdW 0 lo <;> cases bdW 0 hi <;> rfl
@[go_sem] theorem slW_ref {t id ver off n : Nat} {lo hi : Option V} {K : V → Prop} : slH P st t (.ref id ver off n) lo hi K = getH st id ver fun k => ((el P t).bind (inf P)).map (·.1) = some k.sz ∧ optW (bdW 0 lo) fun l => optW (bdW n hi) fun h =>
    0 ≤ l ∧ l ≤ h ∧ h ≤ n ∧ K (.ref id ver (off + l.toNat) (h - l).toNat) := by
  simp only [slH, slW]
  have : (fun k : Blk => ((el P t).bind (inf P)).map (·.1) = some k.sz ∧ match bdW 0 lo, bdW n hi with
    | some l, some h => 0 ≤ l ∧ l ≤ h ∧ h ≤ n ∧ K (.ref id ver (off + l.toNat) (h - l).toNat)
    | _, _ => False) = fun k => ((el P t).bind (inf P)).map (·.1) = some k.sz ∧ optW (bdW 0 lo) fun l => optW (bdW n hi) fun h => 0 ≤ l ∧ l ≤ h ∧ h ≤ n ∧ K (.ref id ver (off + l.toNat) (h - l).toNat) := by
    funext k; unfold optW; cases bdW 0 lo <;> cases bdW n hi <;> rfl
  exact congrArg (getB st id ver) this
/-- A field's place. -/
def faW (o : Nat) (x : V) (st : Store) (K : V → Store → Prop) (_ : Tag K := ⟨⟩) : Prop :=
  match x with
  | .ip m sz f i j => K (.ip m sz f i (j + o)) st
  | .ptr id ver off => getB st id ver fun _ => K (.ptr id ver (off + o)) st
  | _ => False
@[go_sem] theorem faW_ip {o m sz : Nat} {f : Nat → Nat → V} {i j : Nat} : faW o (.ip m sz f i j) st K = bindV (.ip m sz f i (j + o)) st K := rfl
@[go_sem] theorem faW_ptr {o id ver off : Nat} : faW o (.ptr id ver off) st K = getH st id ver fun _ => bindV (.ptr id ver (off + o)) st K := rfl
@[go_sem ↓] theorem opW_fa {t k : Nat} {x : A} : opW P ρ st (.fa t x k) K = optW (fo P t k) fun p => optW (inf P p.2) fun q => q.1 ≠ 0 ∧ faW p.1 (ev ρ x) st K := by
  simp only [opW]; rcases fo P t k with _ | ⟨o, ft⟩ <;> simp only [optW]
  rcases inf P ft with _ | ⟨a, b, c, d⟩ <;> simp only
  unfold faW; cases ev ρ x <;> rfl
@[go_sem ↓] theorem opW_fl {t k : Nat} {x : A} : opW P ρ st (.fl t x k) K = optW (fo P t k) fun p => optW (inf P p.2) fun q => onAgg (ev ρ x) fun cs =>
    if q.2.2.1 = true then p.1 + q.1 ≤ cs.length ∧ bindV (.agg ((cs.drop p.1).take q.1)) st K else optW (cs[p.1]?) fun c => bindV c st K := by
  simp only [opW]; rcases fo P t k with _ | ⟨o, ft⟩ <;> simp only [optW]
  rcases inf P ft with _ | ⟨a, b, c, d⟩ <;> simp only
  unfold onAgg bindV; cases ev ρ x <;> try rfl
  simp only
  split
  · rfl
  · rename_i cs _; cases cs[o]? <;> rfl
def iaW (sz : Nat) (i : Int) (x : V) (st : Store) (K : V → Store → Prop) (_ : Tag K := ⟨⟩) : Prop :=
  match x with
  | .sl n s f => s = sz ∧ 0 ≤ i ∧ i < n ∧ K (.ip n sz f i.toNat 0) st
  | .ref id ver off n => getB st id ver fun b => b.sz = sz ∧ 0 ≤ i ∧ i < n ∧ K (.ptr id ver ((off + i.toNat) * sz)) st
  | _ => False
@[go_sem] theorem iaW_sl {sz n s : Nat} {i : Int} {f : Nat → Nat → V} : iaW sz i (.sl n s f) st K = (s = sz ∧ 0 ≤ i ∧ i < n ∧ bindV (.ip n sz f i.toNat 0) st K) := rfl
@[go_sem] theorem iaW_ref {sz id ver off n : Nat} {i : Int} : iaW sz i (.ref id ver off n) st K = getH st id ver fun b => b.sz = sz ∧ 0 ≤ i ∧ i < n ∧ bindV (.ptr id ver ((off + i.toNat) * sz)) st K := rfl
def iarrW (n sz : Nat) (i : Int) (x : V) (st : Store) (K : V → Store → Prop) (_ : Tag K := ⟨⟩) : Prop :=
  match x with
  | .ptr id ver off => getB st id ver fun _ => 0 ≤ i ∧ i < n ∧ K (.ptr id ver (off + i.toNat * sz)) st
  | .ip m s f a j => 0 ≤ i ∧ i < n ∧ K (.ip m s f a (j + i.toNat * sz)) st
  | _ => False
@[go_sem] theorem iarrW_ip {n sz m s a j : Nat} {i : Int} {f : Nat → Nat → V} : iarrW n sz i (.ip m s f a j) st K = (0 ≤ i ∧ i < n ∧ bindV (.ip m s f a (j + i.toNat * sz)) st K) := rfl
@[go_sem] theorem iarrW_ptr {n sz id ver off : Nat} {i : Int} : iarrW n sz i (.ptr id ver off) st K = getH st id ver fun _ => 0 ≤ i ∧ i < n ∧ bindV (.ptr id ver (off + i.toNat * sz)) st K := rfl
@[go_sem ↓] theorem opW_ia {t : Nat} {x i : A} : opW P ρ st (.ia t x i) K = onX (ev ρ i) fun i => onInt i fun i => caseO (el P t) (fun e => optW (inf P e) fun q => iaW q.1 i (ev ρ x) st K)
    (optW (arr P t) fun p => optW (inf P p.2) fun q => iarrW p.1 q.1 i (ev ρ x) st K) := by
  simp only [opW]
  unfold onX onInt caseO
  cases ev ρ i with
  | x v =>
    cases v <;> try rfl
    rcases el P t with _ | e <;> simp only
    · rcases arr P t with _ | ⟨n, e⟩ <;> simp only [optW]
      unfold iarrW
      rcases inf P e with _ | ⟨a, b, c, d⟩ <;> simp only
      cases ev ρ x <;> rfl
    · unfold optW iaW
      rcases inf P e with _ | ⟨a, b, c, d⟩ <;> simp only
      cases ev ρ x <;> rfl
  | _ => rfl
def ixW (i : Int) (x : V) (K : V → Prop) (_ : Tag K := ⟨⟩) : Prop :=
  match x with
  | .x (.string s) => 0 ≤ i ∧ i < s.size ∧ K (.x (.int .u8 ((s.data.toList.getD i.toNat 0).toNat)))
  | _ => False
@[go_sem] theorem ixW_s {i : Int} {s : ByteArray} {K : V → Prop} : ixW i (.x (.string s)) K = (0 ≤ i ∧ i < s.size ∧ K (.x (.int .u8 ((s.data.toList.getD i.toNat 0).toNat)))) := rfl
@[go_sem ↓] theorem opW_ix {t : Nat} {x i : A} : opW P ρ st (.ix t x i) K = onX (ev ρ i) fun i => onInt i fun i => P.underlying t = some .string ∧ ixW i (ev ρ x) fun v => bindV v st K := by
  simp only [opW]
  unfold onX onInt ixW
  cases ev ρ i with
  | x v => cases v <;> try rfl
           cases ev ρ x with
           | x u => cases u <;> simp [bindV]
           | _ => simp
  | _ => rfl
@[go_sem ↓] theorem opW_ex {x : A} {k : Nat} : opW P ρ st (.ex x k) K = onTup (ev ρ x) fun vs => optW (vs[k]?) fun v => bindV v st K := by
  simp only [opW]; unfold onTup
  cases ev ρ x <;> try rfl
  rename_i vs; simp only; cases vs[k]? <;> rfl
@[go_sem ↓] theorem opW_ca {f : Nat} {as : List A} : opW P ρ st (.ca f as) K = SpecH P f (evs ρ as) st K ⟨⟩ := rfl
def cdW (P : Program) (x : V) (as : List V) (st : Store) (K : V → Store → Prop) (_ : Tag K := ⟨⟩) : Prop :=
  match x with
  | .fn (.func f) cs => Spec P f (as ++ cs) st K
  | _ => False
@[go_sem] theorem cdW_fn {f : Nat} {cs as : List V} : cdW P (.fn (.func f) cs) as st K = SpecH P f (as ++ cs) st K ⟨⟩ := rfl
@[go_sem ↓] theorem opW_cd {x : A} {as : List A} : opW P ρ st (.cd x as) K = cdW P (ev ρ x) (evs ρ as) st K := by simp only [opW]; unfold cdW; rfl
def lenK (P : Program) (st : Store) (t : Nat) (x : V) (K : V → Store → Prop) (_ : Tag K := ⟨⟩) : Prop := lenW P st t x fun v => K v st
@[go_sem ↓] theorem opW_len {t : Nat} {x : A} : opW P ρ st (.bu .len [t] [x]) K = lenK P st t (ev ρ x) K := rfl
@[go_sem] theorem lenK_str {t : Nat} {s : ByteArray} : lenK P st t (.x (.string s)) K = (P.underlying t = some .string ∧ bindV (.x (.int .i64 s.size)) st K) := rfl
@[go_sem] theorem lenK_nil {t : Nat} : lenK P st t (.x (.slice none 0 0)) K = ((el P t).isSome = true ∧ bindV (.x (.int .i64 0)) st K) := rfl
@[go_sem] theorem lenK_sl {t n sz : Nat} {f : Nat → Nat → V} : lenK P st t (.sl n sz f) K = ((el P t).isSome = true ∧ bindV (.x (.int .i64 n)) st K) := rfl
@[go_sem] theorem lenK_ref {t id ver off n : Nat} : lenK P st t (.ref id ver off n) K = ((el P t).isSome = true ∧ getH st id ver fun _ => bindV (.x (.int .i64 n)) st K) := rfl
def appK (P : Program) (st : Store) (t tx : Nat) (s x : V) (K : V → Store → Prop) (_ : Tag K := ⟨⟩) : Prop := if intT P tx = none then appW P st t tx s x K else appZ P st t tx s x K
@[go_sem ↓] theorem opW_app {t tx : Nat} {s x : A} : opW P ρ st (.bu .append [t, tx] [s, x]) K = appK P st t tx (ev ρ s) (ev ρ x) K := rfl
def cellsK (st : Store) (sz : Nat) (x : V) (K : List V → Nat → Prop) (_ : Tag K := ⟨⟩) : Prop := cellsOf st sz x K
@[go_sem] theorem cellsK_sl {sz n s : Nat} {f : Nat → Nat → V} {K : List V → Nat → Prop} : cellsK st sz (.sl n s f) K = (s = sz ∧ K ((List.range n).flatMap fun i => rng (f i) 0 sz) n) := rfl
@[go_sem] theorem cellsK_ref {sz id ver off n : Nat} {K : List V → Nat → Prop} : cellsK st sz (.ref id ver off n) K = getH st id ver fun k => k.sz = sz ∧ K ((k.cells.drop (off * sz)).take (n * sz)) n := rfl
@[go_sem] theorem cellsK_nil {sz : Nat} {K : List V → Nat → Prop} : cellsK st sz (.x (.slice none 0 0)) K = K [] 0 := rfl
@[go_sem] theorem cellsK_str {sz : Nat} {s : ByteArray} {K : List V → Nat → Prop} : cellsK st sz (.x (.string s)) K = (sz = 1 ∧ K (s.data.toList.map fun b => .x (.int .u8 b.toNat)) s.size) := rfl
def appN (P : Program) (st : Store) (t tx : Nat) (s x : V) (K : V → Store → Prop) (_ : Tag K := ⟨⟩) : Prop := appW P st t tx s x K
def appI (P : Program) (st : Store) (t tx : Nat) (s x : V) (K : V → Store → Prop) (_ : Tag K := ⟨⟩) : Prop := appZ P st t tx s x K
@[go_sem] theorem appK_eq {t tx : Nat} {s x : V} : appK P st t tx s x K = caseO (intT P tx) (fun _ => appI P st t tx s x K) (appN P st t tx s x K) := by
  unfold appK caseO; cases intT P tx <;> simp [appI, appN]
@[go_sem] theorem appN_nil {t tx : Nat} {x : V} : appN P st t tx (.x (.slice none 0 0)) x K = optW (el P t) fun e => optW (inf P e) fun q => intT P tx = none ∧ (P.underlying tx).isSome = true ∧ 0 < q.1 ∧ 0 < q.2.1 ∧ q.2.2.2.length = q.1 ∧ cellsK st q.1 x fun cs k =>
    k * q.2.1 ≤ 140737488355328 ∧ (0 < k → K (.ref st.length 0 0 k) (st ++ [⟨2, 0, q.1, cs⟩])) ∧ (k = 0 → K (.x (.slice none 0 0)) st) := by
  simp only [appN, appW]; rcases el P t with _ | e <;> simp only [optW]
  rcases inf P e with _ | ⟨a, b, c, d⟩ <;> rfl
@[go_sem] theorem appN_ref {t tx id ver off n : Nat} {x : V} : appN P st t tx (.ref id ver off n) x K = optW (el P t) fun e => optW (inf P e) fun q => intT P tx = none ∧ (P.underlying tx).isSome = true ∧ 0 < q.1 ∧ 0 < q.2.1 ∧ q.2.2.2.length = q.1 ∧ cellsK st q.1 x fun cs k =>
    getH st id ver fun b => b.sz = q.1 ∧ (n + k) * q.2.1 ≤ 140737488355328 ∧
          bindV (.ref id (ver + 1) 0 (n + k)) (st.set id ⟨if b.kind = 1 ∧ k = 0 then 1 else 2, ver + 1, q.1, (b.cells.drop (off * q.1)).take (n * q.1) ++ cs⟩) K := by
  simp only [appN, appW]; rcases el P t with _ | e <;> simp only [optW]
  rcases inf P e with _ | ⟨a, b, c, d⟩ <;> rfl
@[go_sem] theorem appI_nil {t tx : Nat} {n : Int} : appI P st t tx (.x (.slice none 0 0)) (.x (.int .i64 n)) K = optW (el P t) fun e => optW (inf P e) fun q => intT P tx = some .i64 ∧ 0 < q.1 ∧ 0 < q.2.1 ∧ q.2.2.2.length = q.1 ∧ ones (q.2.2.2.map .x) = true ∧
    0 < n ∧ n * q.2.1 ≤ 140737488355328 ∧ bindV (.ref st.length 0 0 n.toNat) (st ++ [⟨2, 0, q.1, (List.replicate n.toNat (q.2.2.2.map .x)).flatten⟩]) K := by
  simp only [appI, appZ]; rcases el P t with _ | e <;> simp only [optW]
  rcases inf P e with _ | ⟨a, b, c, d⟩ <;> rfl
def capK (P : Program) (st : Store) (t : Nat) (x : V) (K : V → Store → Prop) (_ : Tag K := ⟨⟩) : Prop := capW P st t x fun v => K v st
@[go_sem ↓] theorem opW_cap {t : Nat} {x : A} : opW P ρ st (.bu .cap [t] [x]) K = capK P st t (ev ρ x) K := rfl
@[go_sem] theorem capK_nil {t : Nat} : capK P st t (.x (.slice none 0 0)) K = ((el P t).isSome = true ∧ bindV (.x (.int .i64 0)) st K) := rfl
@[go_sem ↓] theorem opW_min {ts : List Nat} {x y : A} : opW P ρ st (.bu .min ts [x, y]) K = onX (ev ρ x) fun a => onX (ev ρ y) fun b => onInt a fun a' => onInt b fun b' => ∃ k, a = .int k a' ∧ b = .int k b' ∧ bindV (.x (.int k (if b' < a' then b' else a'))) st K := by
  simp only [opW, evs]; unfold onX onInt bindV buW
  cases ev ρ x with
  | x v => cases ev ρ y with
    | x u => cases v <;> cases u <;> simp
             exact fun _ => eq_comm
    | _ => cases v <;> simp
  | _ => simp
@[go_sem ↓] theorem opW_max {ts : List Nat} {x y : A} : opW P ρ st (.bu .max ts [x, y]) K = onX (ev ρ x) fun a => onX (ev ρ y) fun b => onInt a fun a' => onInt b fun b' => ∃ k, a = .int k a' ∧ b = .int k b' ∧ bindV (.x (.int k (if b' > a' then b' else a'))) st K := by
  simp only [opW, evs]; unfold onX onInt bindV buW
  cases ev ρ x with
  | x v => cases ev ρ y with
    | x u => cases v <;> cases u <;> simp
             exact fun _ => eq_comm
    | _ => cases v <;> simp
  | _ => simp
end

/-- One answer: what is asked of it goes on as it is. -/
theorem oneW_of {P : Program} {ρ : Env} {st : Store} {o : O} {K : V → Prop} (v : V) (h : opW P ρ st o (fun v' st' => v' = v ∧ st' = st)) (hK : K v) : oneW P ρ st o K := ⟨v, h, hK⟩

/-- The store: the first one's blocks, then the call's own. -/
@[go_sem] theorem getH_own (st l : Store) (k ver : Nat) (K : Blk → Prop) : getH (st ++ l) (st.length + k) ver K = getH l k ver K := by
  unfold getH getB
  rw [List.getElem?_append_right (by omega)]
  simp
@[go_sem] theorem getH_own0 (st l : Store) (ver : Nat) (K : Blk → Prop) : getH (st ++ l) st.length ver K = getH l 0 ver K := getH_own st l 0 ver K
@[go_sem] theorem getH_zero (b : Blk) (l : Store) (ver : Nat) (K : Blk → Prop) : getH (b :: l) 0 ver K = (b.ver = ver ∧ b.kind ≠ 0 ∧ K b) := rfl
@[go_sem] theorem getH_succ (b : Blk) (l : Store) (k ver : Nat) (K : Blk → Prop) : getH (b :: l) (k + 1) ver K = getH l k ver K := rfl
@[go_sem] theorem set_own (st l : Store) (k : Nat) (b : Blk) : (st ++ l).set (st.length + k) b = st ++ l.set k b := by
  rw [List.set_append_right _ _ (by omega)]; simp
@[go_sem] theorem set_own0 (st l : Store) (b : Blk) : (st ++ l).set st.length b = st ++ l.set 0 b := set_own st l 0 b

/-! ### How values of Go's types are said -/

def V.int (n : Int) : V := .x (.int .i64 n)
def V.bool (b : Bool) : V := .x (.bool b)
def V.str (s : ByteArray) : V := .x (.string s)
def intsF (xs : List Int) : Nat → Nat → V := cut xs.length 1 fun i _ => .x (.int .i64 (xs.getD i 0))
abbrev V.ints (xs : List Int) : V := .sl xs.length 1 (intsF xs)

theorem intsF_lt {xs : List Int} {i : Nat} (h : i < xs.length) : intsF xs i 0 = .x (.int .i64 (xs.getD i 0)) := by
  unfold intsF cut; rw [if_pos ⟨h, by omega⟩]

end Go.VS
