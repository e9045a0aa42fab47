/- Loops; the ends of contracts. -/
import Derived.Test.YtjklhbmkajabdaaDoorVs16
set_option linter.all false
namespace Go.VS
open Go Go.RowKit

/-- The end of a loop's body. -/
def loopQ (st0 : Store) (I : Nat → Env → Store → Prop) (n : Nat) (Q : X → Env → Store → Prop) : X → Env → Store → Prop := fun e ρ st => match e with
  | .nm => ∃ k, k < n ∧ Weak st0 (I k) ρ st
  | e => Q e ρ st

theorem loopQ_nm {st0 : Store} {I : Nat → Env → Store → Prop} {n : Nat} {Q : X → Env → Store → Prop} {ρ : Env} {st : Store} (k : Nat) (hk : k < n) (h : Weak st0 (I k) ρ st) : loopQ st0 I n Q .nm ρ st := ⟨k, hk, h⟩
@[go_sem ↓] theorem loopQ_ex {st0 : Store} {I : Nat → Env → Store → Prop} {n : Nat} {Q : X → Env → Store → Prop} {ρ : Env} {st : Store} {i : Nat} : loopQ st0 I n Q (.ex i) ρ st = Q (.ex i) ρ st := rfl
@[go_sem ↓] theorem loopQ_rt {st0 : Store} {I : Nat → Env → Store → Prop} {n : Nat} {Q : X → Env → Store → Prop} {ρ : Env} {st : Store} : loopQ st0 I n Q .rt ρ st = Q .rt ρ st := rfl
def loopE (st0 : Store) (I : Nat → Env → Store → Prop) (n : Nat) (Q : X → Env → Store → Prop) (ρ : Env) (st : Store) (_ : Tag (I, Q)) : Prop := loopQ st0 I n Q .nm ρ st
@[go_sem ↓] theorem loopQ_nm' {st0 : Store} {I : Nat → Env → Store → Prop} {n : Nat} {Q : X → Env → Store → Prop} {ρ : Env} {st : Store} : loopQ st0 I n Q .nm ρ st = loopE st0 I n Q ρ st ⟨⟩ := rfl
theorem loopE.go {st0 : Store} {I : Nat → Env → Store → Prop} {n : Nat} {Q : X → Env → Store → Prop} {ρ : Env} {st : Store} {u : Tag (I, Q)} (k : Nat) (hk : k < n) (h : Weak st0 (I k) ρ st) : loopE st0 I n Q ρ st u := ⟨k, hk, h⟩

theorem LoopC.intro {P : Program} {st0 : Store} {b : C} {ρ : Env} {st : Store} {Q : X → Env → Store → Prop} {u : Tag (b, ρ, Q)} (I : Nat → Env → Store → Prop) (n : Nat) (h0 : Weak st0 (I n) ρ st) (hs : ∀ n ρ st, I n ρ st → W P st0 b ρ st (loopQ st0 I n Q)) : LoopC P st0 b ρ st Q u := by
  refine ⟨I, ⟨n, h0⟩, fun n ρ st h => ?_⟩
  have := hs n ρ st h
  have e : loopQ st0 I n Q = fun e ρ' st' => match e with
    | .nm => ∃ k, k < n ∧ Weak st0 (I k) ρ' st'
    | e => Q e ρ' st' := by
    funext e ρ st; cases e <;> rfl
  exact Eq.mp (congrArg (W P st0 b ρ st) (by funext e ρ st; cases e <;> rfl)) this

theorem Fin.nilsl {st0 st : Store} {Q : V → Store → Prop} {sz : Nat} {f : Nat → Nat → V} (h : Fin st0 Q (.sl 0 sz f) st) : Fin st0 Q (.x (.slice none 0 0)) st :=
  fun μ0 w0 R0 μ w R val hs0 hx hs hr => h μ0 w0 R0 μ w R val hs0 hx hs (by rw [hr.x_inv]; exact .imm (.nil _ _))

theorem gcase.all {t : Bool} {A B : Prop} (h1 : A) (h2 : B) : gcase t A B := ⟨fun _ => h1, fun _ => h2⟩

/-- Two ways meet at a loop. -/
theorem gcase_loop {P : Program} {st0 : Store} {b : C} {ρ1 ρ2 : Env} {st : Store} {Q : X → Env → Store → Prop} {u1 : Tag (b, ρ1, Q)} {u2 : Tag (b, ρ2, Q)} {t : Bool} {C1 : Prop} (J : Env → Prop) (h1 : t = true → C1 ∧ J ρ1) (h2 : t = false → J ρ2)
    (h : ∀ ρ, J ρ → LoopC P st0 b ρ st Q ⟨⟩) : gcase t (C1 ∧ LoopC P st0 b ρ1 st Q u1) (LoopC P st0 b ρ2 st Q u2) :=
  ⟨fun e => ⟨(h1 e).1, h _ (h1 e).2⟩, fun e => h _ (h2 e)⟩
theorem gcase_loop0 {P : Program} {st0 : Store} {b : C} {ρ1 ρ2 : Env} {st : Store} {Q : X → Env → Store → Prop} {u1 : Tag (b, ρ1, Q)} {u2 : Tag (b, ρ2, Q)} {t : Bool} (J : Env → Prop) (h1 : t = true → J ρ1) (h2 : t = false → J ρ2)
    (h : ∀ ρ, J ρ → LoopC P st0 b ρ st Q ⟨⟩) : gcase t (LoopC P st0 b ρ1 st Q u1) (LoopC P st0 b ρ2 st Q u2) :=
  ⟨fun e => h _ (h1 e), fun e => h _ (h2 e)⟩

theorem SpecH.of {P : Program} {f : Nat} {as : List V} {st : Store} {K : V → Store → Prop} {u : Tag K} (h : Spec P f as st K) : SpecH P f as st K u := h

end Go.VS
