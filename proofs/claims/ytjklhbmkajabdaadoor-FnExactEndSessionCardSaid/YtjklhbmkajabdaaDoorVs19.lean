/- Operations with one answer. -/
import Derived.Test.YtjklhbmkajabdaaDoorVs18
set_option linter.all false
namespace Go.VS
open Go Go.RowKit

section
variable {P : Program} {ρ : Env} {st : Store}

theorem getB_fun {id ver : Nat} {K : Blk → Prop} (h : getB st id ver K) : ∃ k, K k ∧ ∀ K' : Blk → Prop, K' k → getB st id ver K' := by
  obtain ⟨k, hk, hv, h0, h⟩ := getB_inv h
  exact ⟨k, h, fun K' h' => by unfold getB; rw [hk]; exact ⟨hv, h0, h'⟩⟩

theorem binW_fun {op : BinOp} {t : Nat} {x y : Value} {K : Value → Prop} (h : binW P op t x y K) : ∃ v, K v ∧ ∀ K' : Value → Prop, K' v → binW P op t x y K' := by
  unfold binW at h
  split at h <;> first
    | exact ⟨_, h, fun K' h' => h'⟩
    | exact ⟨_, h.2, fun K' h' => ⟨h.1, h'⟩⟩
    | exact ⟨_, h.2.2, fun K' h' => ⟨h.1, h.2.1, h'⟩⟩
    | exact h.elim

theorem unW_fun {op : UnOp} {x : Value} {K : Value → Prop} (h : unW op x K) : ∃ v, K v ∧ ∀ K' : Value → Prop, K' v → unW op x K' := by
  unfold unW at h
  split at h <;> first
    | exact ⟨_, h, fun K' h' => h'⟩
    | exact h.elim

theorem cellsOf_fun {sz : Nat} {c : V} {K : List V → Nat → Prop} (h : cellsOf st sz c K) : ∃ cs n, K cs n ∧ ∀ K' : List V → Nat → Prop, K' cs n → cellsOf st sz c K' := by
  unfold cellsOf at h ⊢
  split at h
  · exact ⟨_, _, h.2, fun K' h' => ⟨h.1, h'⟩⟩
  · obtain ⟨k, hk, hall⟩ := getB_fun h
    exact ⟨_, _, hk.2, fun K' h' => hall _ ⟨hk.1, h'⟩⟩
  · exact ⟨_, _, h, fun K' h' => h'⟩
  · exact ⟨_, _, h.2, fun K' h' => ⟨h.1, h'⟩⟩
  · exact h.elim

/-- One answer. -/
def Fnl (P : Program) (ρ : Env) (st : Store) (o : O) : Prop := ∀ K : V → Store → Prop, opW P ρ st o K → ∃ v, K v st ∧ ∀ K' : V → Store → Prop, K' v st → opW P ρ st o K'

theorem Fnl.one {o : O} (hf : Fnl P ρ st o) (K : V → Prop) : oneW P ρ st o K = opW P ρ st o fun v st' => st' = st ∧ K v := by
  apply propext
  constructor
  · rintro ⟨v, h, hk⟩
    obtain ⟨v', ⟨rfl, _⟩, h2⟩ := hf _ h
    exact h2 _ ⟨rfl, hk⟩
  · intro h
    obtain ⟨v, ⟨_, hk⟩, h2⟩ := hf _ h
    exact ⟨v, h2 _ ⟨rfl, rfl⟩, hk⟩

theorem fnl_mv {x : A} : Fnl P ρ st (.mv x) := fun K h => ⟨_, h, fun K' h' => h'⟩
theorem fnl_mf {g : Fn} {cs : List A} : Fnl P ρ st (.mf g cs) := fun K h => ⟨_, h, fun K' h' => h'⟩
theorem fnl_pk {c a b : A} : Fnl P ρ st (.pk c a b) := fun K h => by
  simp only [opW] at h ⊢
  split at h
  · exact ⟨_, h, fun K' h' => h'⟩
  · exact h.elim
theorem fnl_ld {t : Nat} {x : A} : Fnl P ρ st (.ld t x) := fun K h => by
  simp only [opW] at h ⊢
  split at h
  · split at h
    · split at h
      · rename_i hag; exact ⟨_, h.2, fun K' h' => by rw [if_pos hag]; exact ⟨h.1, h'⟩⟩
      · rename_i hag; exact ⟨_, h.2, fun K' h' => by rw [if_neg hag]; exact ⟨h.1, h'⟩⟩
    · obtain ⟨k, hk, hall⟩ := getB_fun h
      split at hk
      · rename_i hag; exact ⟨_, hk.2, fun K' h' => hall _ (by rw [if_pos hag]; exact ⟨hk.1, h'⟩)⟩
      · rename_i hag
        split at hk
        · rename_i c hc; exact ⟨_, hk, fun K' h' => hall _ (by rw [if_neg hag]; simp only [hc]; exact h')⟩
        · exact hk.elim
    · exact h.elim
  · exact h.elim
theorem fnl_nc {x : A} : Fnl P ρ st (.nc x) := fun K h => by
  simp only [opW] at h ⊢
  split at h
  · exact ⟨_, h, fun K' h' => h'⟩
  · obtain ⟨k, hk, hall⟩ := getB_fun h
    exact ⟨_, hk, fun K' h' => hall _ h'⟩
  · exact ⟨_, h, fun K' h' => h'⟩
  · exact h.elim
theorem fnl_bi {op : BinOp} {t : Nat} {x y : A} (ht : el P t = none) : Fnl P ρ st (.bi op t x y) := fun K h => by
  simp only [opW] at h ⊢
  split at h
  · obtain ⟨v, hv, hall⟩ := binW_fun h
    exact ⟨_, hv, fun K' h' => hall _ h'⟩
  · rw [ht] at h; exact absurd h.1 (by simp)
  · rw [ht] at h; exact absurd h.1 (by simp)
  · exact h.elim
theorem fnl_un {op : UnOp} {x : A} : Fnl P ρ st (.un op x) := fun K h => by
  simp only [opW] at h ⊢
  split at h
  · obtain ⟨v, hv, hall⟩ := unW_fun h
    exact ⟨_, hv, fun K' h' => hall _ h'⟩
  · exact h.elim
theorem fnl_cv {s d : Nat} {x : A} : Fnl P ρ st (.cv s d x) := fun K h => by
  simp only [opW] at h ⊢
  split at h
  · split at h
    · exact ⟨_, h.2, fun K' h' => ⟨h.1, h'⟩⟩
    · exact ⟨_, h.2.2, fun K' h' => ⟨h.1, h.2.1, h'⟩⟩
  · exact ⟨_, h.2.2.2, fun K' h' => ⟨h.1, h.2.1, h.2.2.1, h'⟩⟩
  · unfold cvB at h
    obtain ⟨hd, h⟩ := h
    split at h
    · rename_i e hel
      obtain ⟨he, h⟩ := h
      split at h
      · exact h.elim
      · rename_i hns
        obtain ⟨cs, n, hq, hall⟩ := cellsOf_fun h
        split at hq
        · rename_i bs hb
          refine ⟨_, hq, fun K' h' => ?_⟩
          unfold cvB
          refine ⟨hd, ?_⟩
          simp only [hel]
          refine ⟨he, ?_⟩
          refine hall _ ?_
          simp only [hb]
          exact h'
        · exact hq.elim
    · exact h.elim
theorem fnl_fa {t k : Nat} {x : A} : Fnl P ρ st (.fa t x k) := fun K h => by
  simp only [opW] at h ⊢
  split at h
  · split at h
    · obtain ⟨hn, h⟩ := h
      split at h
      · exact ⟨_, h, fun K' h' => ⟨hn, h'⟩⟩
      · obtain ⟨b, hb, hall⟩ := getB_fun h
        exact ⟨_, hb, fun K' h' => ⟨hn, hall _ h'⟩⟩
      · exact h.elim
    · exact h.elim
  · exact h.elim
theorem fnl_fl {t k : Nat} {x : A} : Fnl P ρ st (.fl t x k) := fun K h => by
  simp only [opW] at h ⊢
  split at h
  · split at h
    · split at h
      · split at h
        · rename_i hag; exact ⟨_, h.2, fun K' h' => by rw [if_pos hag]; exact ⟨h.1, h'⟩⟩
        · rename_i hag
          split at h
          · rename_i c hc; exact ⟨_, h, fun K' h' => by rw [if_neg hag]; exact h'⟩
          · exact h.elim
      · exact h.elim
    · exact h.elim
  · exact h.elim
theorem fnl_ex {x : A} {k : Nat} : Fnl P ρ st (.ex x k) := fun K h => by
  simp only [opW] at h ⊢
  split at h
  · split at h
    · exact ⟨_, h, fun K' h' => h'⟩
    · exact h.elim
  · exact h.elim
theorem fnl_ix {t : Nat} {x i : A} : Fnl P ρ st (.ix t x i) := fun K h => by
  simp only [opW] at h ⊢
  split at h
  · exact ⟨_, h.2.2.2, fun K' h' => ⟨h.1, h.2.1, h.2.2.1, h'⟩⟩
  · exact h.elim
theorem fnl_len {t : Nat} {x : A} : Fnl P ρ st (.bu .len [t] [x]) := fun K h => by
  simp only [opW, evs, buW, lenW] at h ⊢
  split at h
  · exact ⟨_, h.2, fun K' h' => ⟨h.1, h'⟩⟩
  · exact ⟨_, h.2, fun K' h' => ⟨h.1, h'⟩⟩
  · exact ⟨_, h.2, fun K' h' => ⟨h.1, h'⟩⟩
  · obtain ⟨hel, h⟩ := h
    obtain ⟨b, hb, hall⟩ := getB_fun h
    exact ⟨_, hb, fun K' h' => ⟨hel, hall _ h'⟩⟩
  · exact h.elim
theorem fnl_bd {t : Nat} {ps : List (Nat × A)} : Fnl P ρ st (.bd t ps) := fun K h => by
  rw [opW_bd] at h
  have e : ∀ K', opW P ρ st (.bd t ps) K' = _ := fun K' => opW_bd
  cases hq : inf P t with
  | none => rw [hq] at h; exact h.elim
  | some q =>
    rw [hq] at h
    cases hL : flds P t with
    | none => simp only [optW, hL] at h
    | some L =>
      simp only [optW, hL] at h
      cases hcs : fillV (fun i => L[i]?) (q.2.2.2.map .x) (evps ρ ps) with
      | none => simp only [hcs] at h
      | some cs =>
        simp only [hcs] at h
        refine ⟨_, h, fun K' h' => ?_⟩
        rw [opW_bd, hq]
        simp only [optW, hL, hcs]
        exact h'

theorem fnl_ia {t : Nat} {x i : A} : Fnl P ρ st (.ia t x i) := fun K h => by
  simp only [opW] at h ⊢
  split at h
  · split at h
    · split at h
      · split at h
        · exact ⟨_, h.2.2.2, fun K' h' => ⟨h.1, h.2.1, h.2.2.1, h'⟩⟩
        · obtain ⟨b, hb, hall⟩ := getB_fun h
          exact ⟨_, hb.2.2.2, fun K' h' => hall _ ⟨hb.1, hb.2.1, hb.2.2.1, h'⟩⟩
        · exact h.elim
      · exact h.elim
    · split at h
      · split at h
        · split at h
          · obtain ⟨b, hb, hall⟩ := getB_fun h
            exact ⟨_, hb.2.2, fun K' h' => hall _ ⟨hb.1, hb.2.1, h'⟩⟩
          · exact ⟨_, h.2.2, fun K' h' => ⟨h.1, h.2.1, h'⟩⟩
          · exact h.elim
        · exact h.elim
      · exact h.elim
  · exact h.elim

theorem slW_fun {t : Nat} {x : V} {lo hi : Option V} {K : V → Prop} (h : slW P st t x lo hi K) : ∃ v, K v ∧ ∀ K' : V → Prop, K' v → slW P st t x lo hi K' := by
  unfold slW at h ⊢
  split at h
  · obtain ⟨h0, h⟩ := h
    split at h
    · rename_i l hh e1 e2
      exact ⟨_, h.2.2.2, fun K' h' => ⟨h0, ⟨h.1, h.2.1, h.2.2.1, h'⟩⟩⟩
    · exact h.elim
  · obtain ⟨h0, h⟩ := h
    split at h
    · rename_i l hh e1 e2
      exact ⟨_, h.2.2.2, fun K' h' => ⟨h0, ⟨h.1, h.2.1, h.2.2.1, h'⟩⟩⟩
    · exact h.elim
  · obtain ⟨h0, h⟩ := h
    split at h
    · rename_i l hh e1 e2
      exact ⟨_, h.2.2, fun K' h' => ⟨h0, ⟨h.1, h.2.1, h'⟩⟩⟩
    · exact h.elim
  · obtain ⟨b, hb, hall⟩ := getB_fun h
    obtain ⟨h0, h⟩ := hb
    split at h
    · rename_i l hh e1 e2
      exact ⟨_, h.2.2.2, fun K' h' => hall _ ⟨h0, ⟨h.1, h.2.1, h.2.2.1, h'⟩⟩⟩
    · exact h.elim
  · exact h.elim

theorem fnl_sl {t : Nat} {x : A} {lo hi : Option A} : Fnl P ρ st (.sl t x lo hi) := fun K h => by
  obtain ⟨v, hv, hall⟩ := slW_fun (K := fun v => K v st) h
  exact ⟨v, hv, fun K' h' => hall (fun v => K' v st) h'⟩

theorem fnl_bz {t n : Nat} {ps : List (Nat × A)} : Fnl P ρ st (.bz t n ps) := fun K h => by
  rw [opW_bz] at h
  cases hel : el P t with
  | none => rw [hel] at h; exact h.elim
  | some e =>
    cases hq : inf P e with
    | none => simp only [optW, hel, hq] at h
    | some q =>
      simp only [optW, hel, hq] at h
      obtain ⟨h1, h2, h⟩ := h
      cases hcs : fillV (fun i => some (i * q.1, q.1)) ((List.replicate n (q.2.2.2.map .x)).flatten) (evps ρ ps) with
      | none => simp only [hcs] at h
      | some cs =>
        simp only [hcs] at h
        refine ⟨_, h.2.2, fun K' h' => ?_⟩
        rw [opW_bz]
        simp only [optW, hel, hq, hcs]
        exact ⟨h1, h2, h.1, h.2.1, h'⟩

theorem fnl_min {ts : List Nat} {x y : A} : Fnl P ρ st (.bu .min ts [x, y]) := fun K h => by
  simp only [opW, evs, buW] at h ⊢
  split at h <;> first
    | (rename_i e; cases e; done)
    | exact ⟨_, h.2, fun K' h' => by simp_all⟩
    | exact h.elim
    | skip
  all_goals (first | exact ⟨_, h.2, fun K' h' => ⟨h.1, h'⟩⟩ | simp_all)
theorem fnl_max {ts : List Nat} {x y : A} : Fnl P ρ st (.bu .max ts [x, y]) := fun K h => by
  simp only [opW, evs, buW] at h ⊢
  split at h <;> first
    | (rename_i e; cases e; done)
    | exact ⟨_, h.2, fun K' h' => by simp_all⟩
    | exact h.elim
    | skip
  all_goals (first | exact ⟨_, h.2, fun K' h' => ⟨h.1, h'⟩⟩ | simp_all)
@[go_sem ↓] theorem one_max {ts : List Nat} {x y : A} {K : V → Prop} : oneW P ρ st (.bu .max ts [x, y]) K = opW P ρ st (.bu .max ts [x, y]) fun v st' => st' = st ∧ K v := fnl_max.one K
@[go_sem ↓] theorem one_min {ts : List Nat} {x y : A} {K : V → Prop} : oneW P ρ st (.bu .min ts [x, y]) K = opW P ρ st (.bu .min ts [x, y]) fun v st' => st' = st ∧ K v := fnl_min.one K
@[go_sem ↓] theorem one_mv {x : A} {K : V → Prop} : oneW P ρ st (.mv x) K = opW P ρ st (.mv x) fun v st' => st' = st ∧ K v := fnl_mv.one K
@[go_sem ↓] theorem one_mf {g : Fn} {cs : List A} {K : V → Prop} : oneW P ρ st (.mf g cs) K = opW P ρ st (.mf g cs) fun v st' => st' = st ∧ K v := fnl_mf.one K
@[go_sem ↓] theorem one_pk {c a b : A} {K : V → Prop} : oneW P ρ st (.pk c a b) K = opW P ρ st (.pk c a b) fun v st' => st' = st ∧ K v := fnl_pk.one K
@[go_sem ↓] theorem one_ld {t : Nat} {x : A} {K : V → Prop} : oneW P ρ st (.ld t x) K = opW P ρ st (.ld t x) fun v st' => st' = st ∧ K v := fnl_ld.one K
@[go_sem ↓] theorem one_nc {x : A} {K : V → Prop} : oneW P ρ st (.nc x) K = opW P ρ st (.nc x) fun v st' => st' = st ∧ K v := fnl_nc.one K
@[go_sem ↓] theorem one_un {op : UnOp} {x : A} {K : V → Prop} : oneW P ρ st (.un op x) K = opW P ρ st (.un op x) fun v st' => st' = st ∧ K v := fnl_un.one K
@[go_sem ↓] theorem one_cv {s d : Nat} {x : A} {K : V → Prop} : oneW P ρ st (.cv s d x) K = opW P ρ st (.cv s d x) fun v st' => st' = st ∧ K v := fnl_cv.one K
@[go_sem ↓] theorem one_fa {t k : Nat} {x : A} {K : V → Prop} : oneW P ρ st (.fa t x k) K = opW P ρ st (.fa t x k) fun v st' => st' = st ∧ K v := fnl_fa.one K
@[go_sem ↓] theorem one_fl {t k : Nat} {x : A} {K : V → Prop} : oneW P ρ st (.fl t x k) K = opW P ρ st (.fl t x k) fun v st' => st' = st ∧ K v := fnl_fl.one K
@[go_sem ↓] theorem one_ex {k : Nat} {x : A} {K : V → Prop} : oneW P ρ st (.ex x k) K = opW P ρ st (.ex x k) fun v st' => st' = st ∧ K v := fnl_ex.one K
@[go_sem ↓] theorem one_ia {t : Nat} {x i : A} {K : V → Prop} : oneW P ρ st (.ia t x i) K = opW P ρ st (.ia t x i) fun v st' => st' = st ∧ K v := fnl_ia.one K
@[go_sem ↓] theorem one_sl {t : Nat} {x : A} {lo hi : Option A} {K : V → Prop} : oneW P ρ st (.sl t x lo hi) K = opW P ρ st (.sl t x lo hi) fun v st' => st' = st ∧ K v := fnl_sl.one K
@[go_sem ↓] theorem one_bz {t n : Nat} {ps : List (Nat × A)} {K : V → Prop} : oneW P ρ st (.bz t n ps) K = opW P ρ st (.bz t n ps) fun v st' => st' = st ∧ K v := fnl_bz.one K
@[go_sem ↓] theorem one_ix {t : Nat} {x i : A} {K : V → Prop} : oneW P ρ st (.ix t x i) K = opW P ρ st (.ix t x i) fun v st' => st' = st ∧ K v := fnl_ix.one K
@[go_sem ↓] theorem one_len {t : Nat} {x : A} {K : V → Prop} : oneW P ρ st (.bu .len [t] [x]) K = opW P ρ st (.bu .len [t] [x]) fun v st' => st' = st ∧ K v := fnl_len.one K
@[go_sem ↓] theorem one_bd {t : Nat} {ps : List (Nat × A)} {K : V → Prop} : oneW P ρ st (.bd t ps) K = opW P ρ st (.bd t ps) fun v st' => st' = st ∧ K v := fnl_bd.one K
@[go_sem ↓] theorem one_bi {op : BinOp} {t : Nat} {x y : A} {K : V → Prop} : oneW P ρ st (.bi op t x y) K = caseO (el P t) (fun _ => oneW P ρ st (.bi op t x y) K) (opW P ρ st (.bi op t x y) fun v st' => st' = st ∧ K v) := by
  unfold caseO
  cases h : el P t with
  | none => exact (fnl_bi h).one K
  | some e => rfl

/-- A call among operations that may come in any order. -/
def oneH (P : Program) (f : Nat) (as : List V) (st : Store) (K : V → Prop) (_ : Tag K := ⟨⟩) : Prop := ∃ v, Spec P f as st (fun v' st' => v' = v ∧ st' = st) ∧ K v
@[go_sem ↓] theorem one_ca {f : Nat} {as : List A} {K : V → Prop} : oneW P ρ st (.ca f as) K = oneH P f (evs ρ as) st K := rfl
theorem oneH.go {f : Nat} {as : List V} {K : V → Prop} {u : Tag K} (v : V) (h : Spec P f as st fun v' st' => v' = v ∧ st' = st) (hK : K v) : oneH P f as st K u := ⟨v, h, hK⟩
end


/-! ### Groups with kept places -/

def pureH (P : Program) (T : Nat) (ρ : Env) (st : Store) (o : O) (K : V → Prop) : Prop := ∃ v, pureN P T ρ st o v ∧ K v
def addH (P : Program) (T : Nat) (ρ : Env) (st : Store) (o : O) (K : Option Nat → Blk → Prop) : Prop := ∃ mk b, addN P T ρ st o mk b ∧ K mk b

section
variable {P : Program} {T : Nat} {ρ : Env} {st : Store} {r : List (Bool × CO)} {B : List Blk} {KN : Env → List Blk → Prop}
@[go_sem ↓] theorem dW_n {cos : List (Bool × CO)} {r : DC} {KE : Env → Store → Prop} : dW P (.n cos r) ρ st KE = nW P (cntA cos) cos ρ st [] fun ρ' B => dW P r ρ' (st ++ B) KE := rfl
@[go_sem ↓] theorem nW_nil : nW P T [] ρ st B KN = KN ρ B := rfl
@[go_sem ↓] theorem nW_f {d : Nat} {o : O} : nW P T ((false, ⟨some d, o, none⟩) :: r) ρ st B KN = pureH P T ρ st o fun v => nW P T r ((d, v) :: ρ) st B KN := rfl
@[go_sem ↓] theorem nW_f0 {o : O} : nW P T ((false, ⟨none, o, none⟩) :: r) ρ st B KN = pureH P T ρ st o fun _ => nW P T r ρ st B KN := rfl
@[go_sem ↓] theorem nW_fg {d j : Nat} {b : Bool} {o : O} : nW P T ((false, ⟨some d, o, some (j, b)⟩) :: r) ρ st B KN = guardH b (lk ρ j) (pureH P T ρ st o fun v => nW P T r ((d, v) :: ρ) st B KN) (nW P T r ((d, .un) :: ρ) st B KN) := rfl
@[go_sem ↓] theorem nW_t {d : Nat} {o : O} : nW P T ((true, ⟨some d, o, none⟩) :: r) ρ st B KN = addH P T ρ st o fun mk b => nW P T r ((d, mkV mk (st.length + B.length) 1) :: ρ) st (B ++ [{ b with ver := 1 }]) KN := rfl
@[go_sem ↓] theorem nW_tg {d j : Nat} {b : Bool} {o : O} : nW P T ((true, ⟨some d, o, some (j, b)⟩) :: r) ρ st B KN = guardH b (lk ρ j) (addH P T ρ st o fun mk b => nW P T r ((d, mkV mk (st.length + B.length) 1) :: ρ) st (B ++ [{ b with ver := 1 }]) KN) (nW P T r ((d, .un) :: ρ) st (B ++ [ph]) KN) := rfl
@[go_sem] theorem cntA_t {c : CO} : cntA ((true, c) :: r) = cntA r + 1 := rfl
@[go_sem] theorem cntA_f {c : CO} : cntA ((false, c) :: r) = cntA r := rfl
@[go_sem] theorem cntA_nil : cntA [] = 0 := rfl
@[go_sem] theorem mkV_s {n id ver : Nat} : mkV (some n) id ver = .ref id ver 0 n := rfl
@[go_sem] theorem mkV_n {id ver : Nat} : mkV none id ver = .ptr id ver 0 := rfl

theorem pureH_simple {o : O} {K : V → Prop} (h : callO o = false) (hs : simpleO o = true) : pureH P T ρ st o K = oneW P ρ st o K := by
  apply propext
  unfold pureH oneW pureN
  rw [h]
  simp only [cond_false, hs, true_and]
@[go_sem ↓] theorem pn_mv {x : A} {K : V → Prop} : pureH P T ρ st (.mv x) K = oneW P ρ st (.mv x) K := pureH_simple rfl rfl
@[go_sem ↓] theorem pn_mf {g : Fn} {cs : List A} {K : V → Prop} : pureH P T ρ st (.mf g cs) K = oneW P ρ st (.mf g cs) K := pureH_simple rfl rfl
@[go_sem ↓] theorem pn_pk {c a b : A} {K : V → Prop} : pureH P T ρ st (.pk c a b) K = oneW P ρ st (.pk c a b) K := pureH_simple rfl rfl
@[go_sem ↓] theorem pn_ld {t : Nat} {x : A} {K : V → Prop} : pureH P T ρ st (.ld t x) K = oneW P ρ st (.ld t x) K := pureH_simple rfl rfl
@[go_sem ↓] theorem pn_nc {x : A} {K : V → Prop} : pureH P T ρ st (.nc x) K = oneW P ρ st (.nc x) K := pureH_simple rfl rfl
@[go_sem ↓] theorem pn_bi {op : BinOp} {t : Nat} {x y : A} {K : V → Prop} : pureH P T ρ st (.bi op t x y) K = oneW P ρ st (.bi op t x y) K := pureH_simple rfl rfl
@[go_sem ↓] theorem pn_un {op : UnOp} {x : A} {K : V → Prop} : pureH P T ρ st (.un op x) K = oneW P ρ st (.un op x) K := pureH_simple rfl rfl
@[go_sem ↓] theorem pn_cv {s d : Nat} {x : A} {K : V → Prop} : pureH P T ρ st (.cv s d x) K = oneW P ρ st (.cv s d x) K := pureH_simple rfl rfl
@[go_sem ↓] theorem pn_fa {t k : Nat} {x : A} {K : V → Prop} : pureH P T ρ st (.fa t x k) K = oneW P ρ st (.fa t x k) K := pureH_simple rfl rfl
@[go_sem ↓] theorem pn_fl {t k : Nat} {x : A} {K : V → Prop} : pureH P T ρ st (.fl t x k) K = oneW P ρ st (.fl t x k) K := pureH_simple rfl rfl
@[go_sem ↓] theorem pn_ex {k : Nat} {x : A} {K : V → Prop} : pureH P T ρ st (.ex x k) K = oneW P ρ st (.ex x k) K := pureH_simple rfl rfl
@[go_sem ↓] theorem pn_sl {t : Nat} {x : A} {lo hi : Option A} {K : V → Prop} : pureH P T ρ st (.sl t x lo hi) K = oneW P ρ st (.sl t x lo hi) K := pureH_simple rfl rfl
@[go_sem ↓] theorem pn_ia {t : Nat} {x i : A} {K : V → Prop} : pureH P T ρ st (.ia t x i) K = oneW P ρ st (.ia t x i) K := pureH_simple rfl rfl
@[go_sem ↓] theorem pn_ix {t : Nat} {x i : A} {K : V → Prop} : pureH P T ρ st (.ix t x i) K = oneW P ρ st (.ix t x i) K := pureH_simple rfl rfl
@[go_sem ↓] theorem pn_bd {t : Nat} {ps : List (Nat × A)} {K : V → Prop} : pureH P T ρ st (.bd t ps) K = oneW P ρ st (.bd t ps) K := pureH_simple rfl rfl
@[go_sem ↓] theorem pn_bz {t n : Nat} {ps : List (Nat × A)} {K : V → Prop} : pureH P T ρ st (.bz t n ps) K = oneW P ρ st (.bz t n ps) K := pureH_simple rfl rfl
@[go_sem ↓] theorem pn_len {ts : List Nat} {as : List A} {K : V → Prop} : pureH P T ρ st (.bu .len ts as) K = oneW P ρ st (.bu .len ts as) K := pureH_simple rfl rfl
@[go_sem ↓] theorem pn_min {ts : List Nat} {as : List A} {K : V → Prop} : pureH P T ρ st (.bu .min ts as) K = oneW P ρ st (.bu .min ts as) K := pureH_simple rfl rfl
@[go_sem ↓] theorem pn_max {ts : List Nat} {as : List A} {K : V → Prop} : pureH P T ρ st (.bu .max ts as) K = oneW P ρ st (.bu .max ts as) K := pureH_simple rfl rfl

/-- A call among operations in any order, that leaves the store alone. -/
def callN (P : Program) (T f : Nat) (as : List V) (st : Store) (K : V → Prop) (_ : Tag K) : Prop := ∃ v, (∀ l : Store, l.length = T → Spec P f as (st ++ l) (fun v' st' => v' = v ∧ st' = st ++ l)) ∧ K v
theorem callN.go {f : Nat} {as : List V} {K : V → Prop} {u : Tag K} (v : V) (h : ∀ l : Store, l.length = T → Spec P f as (st ++ l) (fun v' st' => v' = v ∧ st' = st ++ l)) (hK : K v) : callN P T f as st K u := ⟨v, h, hK⟩
@[go_sem ↓] theorem pn_ca {f : Nat} {as : List A} {K : V → Prop} : pureH P T ρ st (.ca f as) K = callN P T f (evs ρ as) st K ⟨⟩ := rfl
/-- A call that lays one block. -/
def addC (P : Program) (T f : Nat) (as : List V) (st : Store) (K : Option Nat → Blk → Prop) (_ : Tag K) : Prop := ∃ mk b, (b.kind ≠ 0 ∧ b.ver = 0 ∧ V.under.all (st.length + T) b.cells = true ∧ ∀ l : Store, l.length = T → Spec P f as (st ++ l) fun v' st' => v' = mkV mk (st.length + T) 0 ∧ st' = st ++ l ++ [b]) ∧ K mk b
theorem addC.go {f : Nat} {as : List V} {K : Option Nat → Blk → Prop} {u : Tag K} (n : Nat) (b : Blk) (h0 : b.kind ≠ 0) (h1 : b.ver = 0) (h2 : ∀ m, V.under.all m b.cells = true) (h : ∀ s : Store, Spec P f as s fun v' st' => v' = .ref s.length 0 0 n ∧ st' = s ++ [b]) (hK : K (some n) b) : addC P T f as st K u :=
  ⟨some n, b, ⟨h0, h1, h2 _, fun l hl => by
    have := h (st ++ l)
    rw [List.length_append, hl] at this
    exact this⟩, hK⟩
@[go_sem ↓] theorem ad_ca {f : Nat} {as : List A} {K : Option Nat → Blk → Prop} : addH P T ρ st (.ca f as) K = addC P T f (evs ρ as) st K ⟨⟩ := rfl
theorem under_x : ∀ (z : List Value) (m : Nat), V.under.all m (z.map .x) = true
  | [], _ => rfl
  | _ :: r, m => by simp only [List.map_cons, V.under.all, V.under, Bool.true_and]; exact under_x r m
@[go_sem ↓] theorem ad_al {t : Nat} {K : Option Nat → Blk → Prop} : addH P T ρ st (.al t) K = optW (inf P t) fun q => ones (q.2.2.2.map .x) = true ∧ K none ⟨2, 0, 1, q.2.2.2.map .x⟩ := by
  apply propext
  unfold addH addN
  constructor
  · rintro ⟨mk, b, ⟨h0, h1, h2, h⟩, hK⟩
    have := h (List.replicate T ph) (by simp)
    rw [opW_al] at this
    cases hq : inf P t with
    | none => rw [hq] at this; exact this.elim
    | some q =>
      rw [hq] at this
      obtain ⟨ho, hv, hb⟩ := this
      simp only [List.append_cancel_left_eq, List.cons.injEq, and_true] at hb
      subst hb
      cases mk with
      | some n => cases hv
      | none => exact ⟨ho, hK⟩
  · intro h
    cases hq : inf P t with
    | none => rw [hq] at h; exact h.elim
    | some q =>
      rw [hq] at h
      refine ⟨none, _, ⟨by simp, rfl, under_x _ _, fun l hl => ?_⟩, h.2⟩
      rw [opW_al, hq]
      exact ⟨h.1, by simp [mkV, hl], rfl⟩
end

end Go.VS
