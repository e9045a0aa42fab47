/- Regions whose order is drawn: operations that leave the world alone are taken first; operations that have one answer and leave the store alone are taken in any order; else every order is shown. -/
import Derived.Test.YtjklhbmkajabdaaDoorVs11
import Derived.Orders
set_option linter.all false
namespace Go.VS
open Go Go.RowKit

def gW (P : Program) (co : CO) (ρ : Env) (st : Store) (K : Env → Store → Prop) : Prop :=
  match co.g with
  | none => opW P ρ st co.o fun v st' => K (put co.d v ρ) st'
  | some (j, b) => guardP b (lk ρ j) (opW P ρ st co.o fun v st' => K (put co.d v ρ) st') (K (put co.d .un ρ) st)

def hW (P : Program) : List CO → Env → Store → (Env → Prop) → Prop
  | [], ρ, _, K => K ρ
  | co :: r, ρ, st, K => match co.g with
    | none => ∃ v, opW P ρ st co.o (fun v' st' => v' = v ∧ st' = st) ∧ hW P r (put co.d v ρ) st K
    | some (j, b) => guardP b (lk ρ j) (∃ v, opW P ρ st co.o (fun v' st' => v' = v ∧ st' = st) ∧ hW P r (put co.d v ρ) st K) (hW P r (put co.d .un ρ) st K)

/-- What an operation that lays one block hands back: a slice of so many, or a pointer. -/
def mkV : Option Nat → Nat → Nat → V
  | some n, id, ver => .ref id ver 0 n
  | none, id, ver => .ptr id ver 0

/-- A place that is kept for a block. -/
def ph : Blk := ⟨0, 0, 0, []⟩

def callO : O → Bool
  | .ca .. | .cd .. => true
  | _ => false

/-- Reads alone, and does so alike in a larger store. -/
def simpleO : O → Bool
  | .mv _ | .mf .. | .pk .. | .ld .. | .nc _ | .bi .. | .un .. | .cv .. | .fa .. | .fl .. | .ex .. | .sl .. | .ia .. | .ix .. | .bd .. | .bz .. => true
  | .bu b _ _ => match b with | .len => true | .min => true | .max => true | _ => false
  | _ => false

def pureN (P : Program) (T : Nat) (ρ : Env) (st : Store) (o : O) (v : V) : Prop :=
  bif callO o then ∀ l : Store, l.length = T → opW P ρ (st ++ l) o (fun v' st' => v' = v ∧ st' = st ++ l)
  else simpleO o = true ∧ opW P ρ st o fun v' st' => v' = v ∧ st' = st

def addN (P : Program) (T : Nat) (ρ : Env) (st : Store) (o : O) (mk : Option Nat) (b : Blk) : Prop :=
  b.kind ≠ 0 ∧ b.ver = 0 ∧ V.under.all (st.length + T) b.cells = true ∧ ∀ l : Store, l.length = T → opW P ρ (st ++ l) o fun v' st' => v' = mkV mk (st.length + T) 0 ∧ st' = st ++ l ++ [b]

def gN (g : Option (Nat × Bool)) (ρ : Env) (A B : Prop) : Prop :=
  match g with
  | none => A
  | some (j, b) => guardP b (lk ρ j) A B

/-- Operations that read, and such as lay one block, in any order: the blocks have kept places. -/
def nW (P : Program) (T : Nat) : List (Bool × CO) → Env → Store → List Blk → (Env → List Blk → Prop) → Prop
  | [], ρ, _, B, K => K ρ B
  | (true, co) :: r, ρ, st, B, K => gN co.g ρ (∃ mk b, addN P T ρ st co.o mk b ∧ nW P T r (put co.d (mkV mk (st.length + B.length) 1) ρ) st (B ++ [{ b with ver := 1 }]) K) (nW P T r (put co.d .un ρ) st (B ++ [ph]) K)
  | (false, co) :: r, ρ, st, B, K => gN co.g ρ (∃ v, pureN P T ρ st co.o v ∧ nW P T r (put co.d v ρ) st B K) (nW P T r (put co.d .un ρ) st B K)

def cntA : List (Bool × CO) → Nat
  | [] => 0
  | (true, _) :: r => cntA r + 1
  | (false, _) :: r => cntA r

inductive DC where
  | dn
  | e (co : CO) (r : DC)
  | h (cos : List CO) (r : DC)
  | n (cos : List (Bool × CO)) (r : DC)
  | a (co : CO) (r o : DC)
  | nx
deriving Inhabited

def dW (P : Program) : DC → Env → Store → (Env → Store → Prop) → Prop
  | .dn, ρ, st, K => K ρ st
  | .e co r, ρ, st, K => gW P co ρ st fun ρ' st' => dW P r ρ' st' K
  | .h cos r, ρ, st, K => hW P cos ρ st fun ρ' => dW P r ρ' st K
  | .n cos r, ρ, st, K => nW P (cntA cos) cos ρ st [] fun ρ' B => dW P r ρ' (st ++ B) K
  | .a co r o, ρ, st, K => (gW P co ρ st fun ρ' st' => dW P r ρ' st' K) ∧ dW P o ρ st K
  | .nx, _, _, _ => True

/-! ### What an operation looks at -/

def O.as : O → List A
  | .mv x | .bx _ x | .ld _ x | .nc x | .un _ x | .cv _ _ x | .fa _ x _ | .fl _ x _ | .ex x _ => [x]
  | .pk c a b => [c, a, b]
  | .bd _ ps | .bs _ _ ps | .bz _ _ ps => ps.map (·.2)
  | .st _ a v => [a, v]
  | .bi _ _ x y => [x, y]
  | .mf _ cs => cs
  | .ms _ l c => [l, c]
  | .sl _ x lo hi => x :: lo.toList ++ hi.toList
  | .ia _ x i | .ix _ x i => [x, i]
  | .ca _ as => as
  | .cd x as => x :: as
  | .bu _ _ as => as
  | .al _ | .ot => []

theorem evs_congr {ρ ρ' : Env} {as : List A} (h : ∀ x ∈ as, ev ρ x = ev ρ' x) : evs ρ as = evs ρ' as := by
  induction as with
  | nil => rfl
  | cons a r ih => simp only [evs]; rw [h a (by simp), ih fun x hx => h x (by simp [hx])]

theorem evps_congr {ρ ρ' : Env} {ps : List (Nat × A)} (h : ∀ x ∈ ps.map (·.2), ev ρ x = ev ρ' x) : evps ρ ps = evps ρ' ps := by
  induction ps with
  | nil => rfl
  | cons a r ih =>
    obtain ⟨i, a⟩ := a
    simp only [evps]; rw [h a (by simp), ih fun x hx => h x (by simp only [List.map_cons, List.mem_cons]; exact .inr hx)]

theorem opW_congr {P : Program} {ρ ρ' : Env} {st : Store} {o : O} {K : V → Store → Prop} (h : ∀ x ∈ o.as, ev ρ x = ev ρ' x) : opW P ρ st o K → opW P ρ' st o K := by
  cases o <;> simp only [O.as, List.mem_cons, List.mem_singleton, List.not_mem_nil, or_false, forall_eq_or_imp, forall_eq, false_imp_iff, implies_true] at h <;> simp only [opW]
  case bd t ps => rw [evps_congr h]; exact id
  case bs t n ps => rw [evps_congr h]; exact id
  case bz t n ps => rw [evps_congr h]; exact id
  case mf g cs => rw [evs_congr h]; exact id
  case ca f as => rw [evs_congr h]; exact id
  case cd x as =>
    rw [h.1, evs_congr h.2]; exact id
  case bu b ts as => rw [evs_congr h]; exact id
  case sl t x lo hi =>
    have hx : ev ρ x = ev ρ' x := h x (by simp)
    have hlo : lo.map (ev ρ) = lo.map (ev ρ') := by cases lo with
      | none => rfl
      | some y => simp only [Option.map_some]; rw [h y (by simp)]
    have hhi : hi.map (ev ρ) = hi.map (ev ρ') := by cases hi with
      | none => rfl
      | some y => simp only [Option.map_some]; rw [h y (by simp)]
    rw [hx, hlo, hhi]; exact id
  all_goals (first | exact id | (rw [h]; exact id) | (rw [h.1, h.2]; exact id) | (rw [h.1, h.2.1, h.2.2]; exact id))

/-- The slots that it looks at. -/
def CO.reads (c : CO) : List Nat := (c.o.as.filterMap fun | .t n => some n | _ => none) ++ (match c.g with | some (j, _) => [j] | none => [])

theorem ev_congr {ρ ρ' : Env} {x : A} (h : ∀ n, x = .t n → lk ρ n = lk ρ' n) : ev ρ x = ev ρ' x := by
  cases x with
  | t n => exact h n rfl
  | _ => rfl

def gQ (P : Program) (co : CO) (ρ : Env) (st : Store) (v : V) : Prop :=
  match co.g with
  | none => opW P ρ st co.o fun v' st' => v' = v ∧ st' = st
  | some (j, b) => guardP b (lk ρ j) (opW P ρ st co.o fun v' st' => v' = v ∧ st' = st) (v = .un)

theorem guardP_mono {b : Bool} {x : V} {A A' B B' : Prop} (ha : A → A') (hb : B → B') (h : guardP b x A B) : guardP b x A' B' := by
  unfold guardP at *
  split at h
  · exact ⟨fun e => ha (h.1 e), fun e => hb (h.2 e)⟩
  · exact hb h
  · exact h.elim

theorem gQ_congr {P : Program} {co : CO} {ρ ρ' : Env} {st : Store} {v : V} (h : ∀ n ∈ co.reads, lk ρ n = lk ρ' n) (hq : gQ P co ρ st v) : gQ P co ρ' st v := by
  have h1 : ∀ x ∈ co.o.as, ev ρ x = ev ρ' x := fun x hx => ev_congr fun n e => h n (by
    subst e
    exact List.mem_append_left _ (List.mem_filterMap.2 ⟨_, hx, rfl⟩))
  unfold gQ at *
  split at hq
  · exact opW_congr h1 hq
  · rename_i j b hg
    rw [← h j (by simp [CO.reads, hg])]
    exact guardP_mono (fun h => opW_congr h1 h) id hq

theorem lk_put {d : Option Nat} {v : V} {ρ : Env} {k : Nat} : lk (put d v ρ) k = if d = some k then v else lk ρ k := by
  cases d with
  | none => simp [put]
  | some d => simp [put, lk]

/-- None of the later ones writes what an earlier one looks at or writes, and none looks at its own. -/
def okc : List CO → Bool
  | [] => true
  | c :: r => (match c.d with | some t => !c.reads.contains t | none => true) && r.all (fun e => match e.d with | some t => !c.reads.contains t && c.d != some t | none => true) && okc r

theorem hW_facts {P : Program} {st : Store} : ∀ {cos : List CO} {ρ : Env} {K : Env → Prop}, okc cos = true → hW P cos ρ st K →
    ∃ ρF, K ρF ∧ (∀ k, (∀ c ∈ cos, c.d ≠ some k) → lk ρF k = lk ρ k) ∧ ∀ c ∈ cos, ∃ v, gQ P c ρF st v ∧ ∀ d, c.d = some d → lk ρF d = v := by
  intro cos
  induction cos with
  | nil => intro ρ K _ h; exact ⟨ρ, h, fun _ _ => rfl, fun c hc => by cases hc⟩
  | cons co r ih =>
    intro ρ K hok h
    simp only [okc, Bool.and_eq_true, List.all_eq_true] at hok
    obtain ⟨⟨hok1, hok2⟩, hok3⟩ := hok
    -- the head has one answer
    obtain ⟨v, hq, hn⟩ : ∃ v, gQ P co ρ st v ∧ hW P r (put co.d v ρ) st K := by
      simp only [hW] at h
      unfold gQ
      split at h
      · exact h
      · rename_i j b hg
        rcases guardP_inv h with ⟨t, ht, h⟩ | ⟨vs, ht, h⟩
        · rcases h with ⟨e, v, h1, h2⟩ | ⟨e, h⟩
          · refine ⟨v, ?_, h2⟩
            rw [ht, e]; exact guardP_yes h1
          · refine ⟨.un, ?_, h⟩
            rw [ht, e]; exact guardP_no rfl
        · exact ⟨.un, by rw [ht]; rfl, h⟩
    obtain ⟨ρF, h1, h2, h3⟩ := ih hok3 hn
    have hd : ∀ t, (t ∈ co.reads ∨ co.d = some t) → ∀ c ∈ r, c.d ≠ some t := fun t ht c hc e => by
      have := hok2 c hc
      rw [e] at this
      simp only [Bool.and_eq_true, Bool.not_eq_true', bne_iff_ne, ne_eq] at this
      rcases ht with ht | ht
      · have := this.1; simp [ht] at this
      · exact this.2 ht
    refine ⟨ρF, h1, fun k hk => ?_, fun c hc => ?_⟩
    · rw [h2 k fun c hc => hk c (List.mem_cons_of_mem _ hc), lk_put, if_neg (hk co (by simp))]
    · rcases List.mem_cons.1 hc with rfl | hc
      · refine ⟨v, gQ_congr (fun n hn => ?_) hq, fun d e => ?_⟩
        · rw [h2 n (hd n (.inl hn)), lk_put, if_neg]
          intro e
          rw [e] at hok1
          simp [hn] at hok1
        · rw [h2 d (hd d (.inr e)), lk_put, if_pos e]
      · exact h3 c hc

/-! ### Groups with kept places -/

theorem gN_mono {g : Option (Nat × Bool)} {ρ : Env} {A A' B B' : Prop} (ha : A → A') (hb : B → B') (h : gN g ρ A B) : gN g ρ A' B' := by
  unfold gN at *
  split at h
  · exact ha h
  · exact guardP_mono ha hb h

theorem gN_inv {g : Option (Nat × Bool)} {ρ : Env} {A B : Prop} (h : gN g ρ A B) : (A ∧ ∀ A' B' : Prop, A' → gN g ρ A' B') ∨ (B ∧ ∀ A' B' : Prop, B' → gN g ρ A' B') := by
  unfold gN at *
  split at h
  · exact .inl ⟨h, fun A' B' h => h⟩
  · rename_i j b
    rcases guardP_inv h with ⟨t, ht, ⟨e, h⟩ | ⟨e, h⟩⟩ | ⟨vs, ht, h⟩
    · exact .inl ⟨h, fun A' B' h' => by rw [ht, e]; exact guardP_yes h'⟩
    · exact .inr ⟨h, fun A' B' h' => by rw [ht, e]; exact guardP_no h'⟩
    · exact .inr ⟨h, fun A' B' h' => by rw [ht]; exact h'⟩

/-- One of a group: its answer, by its last surroundings; q: the place that is kept for its block. -/
def NF (P : Program) (T : Nat) (p : Bool × CO) (ρF : Env) (st : Store) (q : Nat) (BF : List Blk) : Prop :=
  ∃ v, gN p.2.g ρF ((p.1 = true ∧ ∃ mk b, addN P T ρF st p.2.o mk b ∧ v = mkV mk (st.length + q) 1 ∧ BF[q]? = some { b with ver := 1 }) ∨ (p.1 = false ∧ pureN P T ρF st p.2.o v)) (v = .un ∧ (p.1 = true → BF[q]? = some ph)) ∧ ∀ d, p.2.d = some d → lk ρF d = v

def ents : List (Nat × Bool × CO) → Nat → List (Nat × Nat × Bool × CO)
  | [], _ => []
  | (i, true, co) :: r, q => (i, q, true, co) :: ents r (q + 1)
  | (i, false, co) :: r, q => (i, q, false, co) :: ents r q

theorem ents_map : ∀ (hs : List (Nat × Bool × CO)) (q : Nat), (ents hs q).map (fun e => (e.1, e.2.2)) = hs
  | [], _ => rfl
  | (i, true, co) :: r, q => by simp only [ents, List.map_cons, ents_map r]
  | (i, false, co) :: r, q => by simp only [ents, List.map_cons, ents_map r]

theorem ents_bd : ∀ (hs : List (Nat × Bool × CO)) (q : Nat), ∀ e ∈ ents hs q, q ≤ e.2.1 ∧ (e.2.2.1 = true → e.2.1 < q + cntA (hs.map (·.2)))
  | [], _, e, he => by cases he
  | (i, true, co) :: r, q, e, he => by
    simp only [ents, List.mem_cons] at he
    simp only [List.map_cons, cntA]
    rcases he with rfl | he
    · exact ⟨Nat.le_refl _, fun _ => by simp only; omega⟩
    · obtain ⟨h1, h2⟩ := ents_bd r (q + 1) e he
      exact ⟨by omega, fun h => by have := h2 h; omega⟩
  | (i, false, co) :: r, q, e, he => by
    simp only [ents, List.mem_cons] at he
    simp only [List.map_cons, cntA]
    rcases he with rfl | he
    · exact ⟨Nat.le_refl _, fun h => by cases h⟩
    · exact ents_bd r q e he

theorem ents_inj : ∀ (hs : List (Nat × Bool × CO)) (q : Nat), ∀ e ∈ ents hs q, ∀ e' ∈ ents hs q, e.2.2.1 = true → e'.2.2.1 = true → e.2.1 = e'.2.1 → e = e'
  | [], _, e, he, _, _, _, _, _ => by cases he
  | (i, true, co) :: r, q, e, he, e', he', h, h', heq => by
    simp only [ents, List.mem_cons] at he he'
    rcases he with rfl | he <;> rcases he' with rfl | he'
    · rfl
    · have := (ents_bd r (q + 1) e' he').1; simp only at heq; omega
    · have := (ents_bd r (q + 1) e he).1; simp only at heq; omega
    · exact ents_inj r (q + 1) e he e' he' h h' heq
  | (i, false, co) :: r, q, e, he, e', he', h, h', heq => by
    simp only [ents, List.mem_cons] at he he'
    rcases he with rfl | he
    · cases h
    · rcases he' with rfl | he'
      · cases h'
      · exact ents_inj r q e he e' he' h h' heq

theorem ents_cov : ∀ (hs : List (Nat × Bool × CO)) (q x : Nat), q ≤ x → x < q + cntA (hs.map (·.2)) → ∃ e ∈ ents hs q, e.2.2.1 = true ∧ e.2.1 = x
  | [], q, x, h1, h2 => by simp [cntA] at h2; omega
  | (i, true, co) :: r, q, x, h1, h2 => by
    simp only [List.map_cons, cntA] at h2
    simp only [ents]
    by_cases e : x = q
    · exact ⟨_, List.mem_cons_self .., rfl, e.symm⟩
    · obtain ⟨e', he, h3⟩ := ents_cov r (q + 1) x (by omega) (by omega)
      exact ⟨e', List.mem_cons_of_mem _ he, h3⟩
  | (i, false, co) :: r, q, x, h1, h2 => by
    simp only [List.map_cons, cntA] at h2
    simp only [ents]
    obtain ⟨e', he, h3⟩ := ents_cov r q x h1 h2
    exact ⟨e', List.mem_cons_of_mem _ he, h3⟩

theorem getB_app {st l : Store} {id ver : Nat} {K K' : Blk → Prop} (h : getB st id ver K) (hk : ∀ k, K k → K' k) : getB (st ++ l) id ver K' := by
  obtain ⟨k, h1, h2, h3, h4⟩ := getB_inv h
  unfold getB
  rw [getElem?_left l h1]
  exact ⟨h2, h3, hk k h4⟩

theorem binW_mono {P : Program} {op : BinOp} {t : Nat} {x y : Value} {K K' : Value → Prop} (hk : ∀ v, K v → K' v) (h : binW P op t x y K) : binW P op t x y K' := by
  unfold binW at h ⊢
  split at h <;> first
    | exact hk _ h
    | exact ⟨h.1, hk _ h.2⟩
    | exact ⟨h.1, h.2.1, hk _ h.2.2⟩
    | exact h.elim

theorem unW_mono {op : UnOp} {x : Value} {K K' : Value → Prop} (hk : ∀ v, K v → K' v) (h : unW op x K) : unW op x K' := by
  unfold unW at h ⊢
  split at h <;> first
    | exact hk _ h
    | exact h.elim

theorem nilEq_mono {op : BinOp} {b : Bool} {K K' : Value → Prop} (hk : ∀ v, K v → K' v) (h : nilEq op b K) : nilEq op b K' := by
  unfold nilEq at h ⊢
  split at h <;> first
    | exact hk _ h
    | exact h.elim

theorem cellsOf_frame {st l : Store} {sz : Nat} {c : V} {K K' : List V → Nat → Prop} (hk : ∀ cs n, K cs n → K' cs n) (h : cellsOf st sz c K) : cellsOf (st ++ l) sz c K' := by
  unfold cellsOf at h ⊢
  split at h
  · exact ⟨h.1, hk _ _ h.2⟩
  · exact getB_app h fun k h => ⟨h.1, hk _ _ h.2⟩
  · exact hk _ _ h
  · exact ⟨h.1, hk _ _ h.2⟩
  · exact h.elim

theorem cvB_frame {P : Program} {st l : Store} {s d : Nat} {c : V} {K K' : V → Prop} (hk : ∀ v, K v → K' v) (h : cvB P st s d c K) : cvB P (st ++ l) s d c K' := by
  unfold cvB at h ⊢
  refine ⟨h.1, ?_⟩
  replace h := h.2
  split at h
  · refine ⟨h.1, ?_⟩
    replace h := h.2
    split at h
    · exact h.elim
    · refine cellsOf_frame (fun cs n h => ?_) h
      split at h
      · exact hk _ h
      · exact h.elim
  · exact h.elim

theorem slW_frame {P : Program} {st l : Store} {t : Nat} {x : V} {lo hi : Option V} {K K' : V → Prop} (hk : ∀ v, K v → K' v) (h : slW P st t x lo hi K) : slW P (st ++ l) t x lo hi K' := by
  unfold slW at h ⊢
  split at h
  · refine ⟨h.1, ?_⟩
    replace h := h.2
    split at h
    · exact ⟨h.1, h.2.1, h.2.2.1, hk _ h.2.2.2⟩
    · exact h.elim
  · refine ⟨h.1, ?_⟩
    replace h := h.2
    split at h
    · exact ⟨h.1, h.2.1, h.2.2.1, hk _ h.2.2.2⟩
    · exact h.elim
  · refine ⟨h.1, ?_⟩
    replace h := h.2
    split at h
    · exact ⟨h.1, h.2.1, hk _ h.2.2⟩
    · exact h.elim
  · refine getB_app h fun k h => ⟨h.1, ?_⟩
    replace h := h.2
    split at h
    · exact ⟨h.1, h.2.1, h.2.2.1, hk _ h.2.2.2⟩
    · exact h.elim
  · exact h.elim

theorem lenW_frame {P : Program} {st l : Store} {t : Nat} {x : V} {K K' : V → Prop} (hk : ∀ v, K v → K' v) (h : lenW P st t x K) : lenW P (st ++ l) t x K' := by
  unfold lenW at h ⊢
  split at h
  · exact ⟨h.1, hk _ h.2⟩
  · exact ⟨h.1, hk _ h.2⟩
  · exact ⟨h.1, hk _ h.2⟩
  · exact ⟨h.1, getB_app h.2 fun k h => hk _ h⟩
  · exact h.elim

theorem buW_frame {P : Program} {st l : Store} {b : Builtin} {ts : List Nat} {zs : List V} {K K' : V → Store → Prop} (hb : simpleO (.bu b ts []) = true) (hk : ∀ v, K v st → K' v (st ++ l)) (h : buW P st b ts zs K) : buW P (st ++ l) b ts zs K' := by
  unfold buW at h ⊢
  split at h
  · exact lenW_frame (fun v h => hk _ h) h
  · simp [simpleO] at hb
  · simp [simpleO] at hb
  · exact ⟨h.1, hk _ h.2⟩
  · exact ⟨h.1, hk _ h.2⟩
  · exact h.elim

/-- What reads alone does so alike in a larger store. -/
theorem opW_frame {P : Program} {ρ : Env} {st l : Store} {o : O} {K K' : V → Store → Prop} (hs : simpleO o = true) (hk : ∀ v, K v st → K' v (st ++ l)) (h : opW P ρ st o K) : opW P ρ (st ++ l) o K' := by
  cases o <;> try (simp [simpleO] at hs; done)
  case mv x => exact hk _ h
  case mf g cs => exact hk _ h
  case pk c a b =>
    simp only [opW] at h ⊢
    split at h
    · exact hk _ h
    · exact h.elim
  case ld t x =>
    simp only [opW] at h ⊢
    split at h
    · split at h
      · split at h
        · rename_i hag; rw [if_pos hag]; exact ⟨h.1, hk _ h.2⟩
        · rename_i hag; rw [if_neg hag]; exact ⟨h.1, hk _ h.2⟩
      · refine getB_app h fun k h => ?_
        split at h
        · rename_i hag; rw [if_pos hag]; exact ⟨h.1, hk _ h.2⟩
        · rename_i hag
          rw [if_neg hag]
          split at h
          · exact hk _ h
          · exact h.elim
      · exact h.elim
    · exact h.elim
  case nc x =>
    simp only [opW] at h ⊢
    split at h
    · exact hk _ h
    · exact getB_app h fun k h => hk _ h
    · exact hk _ h
    · exact h.elim
  case bi op t x y =>
    simp only [opW] at h ⊢
    split at h
    · exact binW_mono (fun v h => hk _ h) h
    · exact ⟨h.1, fun b hb => nilEq_mono (fun v h => hk _ h) (h.2 b hb)⟩
    · exact ⟨h.1, getB_app h.2 fun k h => nilEq_mono (fun v h => hk _ h) h⟩
    · exact h.elim
  case un op x =>
    simp only [opW] at h ⊢
    split at h
    · exact unW_mono (fun v h => hk _ h) h
    · exact h.elim
  case cv s d x =>
    simp only [opW] at h ⊢
    split at h
    · split at h
      · exact ⟨h.1, hk _ h.2⟩
      · exact ⟨h.1, h.2.1, hk _ h.2.2⟩
    · exact ⟨h.1, h.2.1, h.2.2.1, hk _ h.2.2.2⟩
    · exact cvB_frame (fun v h => hk _ h) h
  case fa t x k =>
    simp only [opW] at h ⊢
    split at h
    · split at h
      · refine ⟨h.1, ?_⟩
        replace h := h.2
        split at h
        · exact hk _ h
        · exact getB_app h fun k h => hk _ h
        · exact h.elim
      · exact h.elim
    · exact h.elim
  case fl t x k =>
    simp only [opW] at h ⊢
    split at h
    · split at h
      · split at h
        · split at h
          · rename_i hag; rw [if_pos hag]; exact ⟨h.1, hk _ h.2⟩
          · rename_i hag
            rw [if_neg hag]
            split at h
            · exact hk _ h
            · exact h.elim
        · exact h.elim
      · exact h.elim
    · exact h.elim
  case ex x k =>
    simp only [opW] at h ⊢
    split at h
    · split at h
      · exact hk _ h
      · exact h.elim
    · exact h.elim
  case sl t x lo hi => exact slW_frame (fun v h => hk v h) h
  case ia t x i =>
    simp only [opW] at h ⊢
    split at h
    · split at h
      · split at h
        · split at h
          · exact ⟨h.1, h.2.1, h.2.2.1, hk _ h.2.2.2⟩
          · exact getB_app h fun k h => ⟨h.1, h.2.1, h.2.2.1, hk _ h.2.2.2⟩
          · exact h.elim
        · exact h.elim
      · split at h
        · split at h
          · split at h
            · exact getB_app h fun k h => ⟨h.1, h.2.1, hk _ h.2.2⟩
            · exact ⟨h.1, h.2.1, hk _ h.2.2⟩
            · exact h.elim
          · exact h.elim
        · exact h.elim
    · exact h.elim
  case ix t x i =>
    simp only [opW] at h ⊢
    split at h
    · exact ⟨h.1, h.2.1, h.2.2.1, hk _ h.2.2.2⟩
    · exact h.elim
  case bd t ps =>
    simp only [opW] at h ⊢
    split at h
    · split at h
      · split at h
        · exact hk _ h
        · exact h.elim
      · exact h.elim
    · exact h.elim
  case bz t n ps =>
    simp only [opW] at h ⊢
    split at h
    · split at h
      · refine ⟨h.1, h.2.1, ?_⟩
        replace h := h.2.2
        split at h
        · exact ⟨h.1, h.2.1, hk _ h.2.2⟩
        · exact h.elim
      · exact h.elim
    · exact h.elim
  case bu b ts as =>
    cases b <;> try (simp [simpleO] at hs; done)
    all_goals
      simp only [opW] at h ⊢
      exact buW_frame rfl hk h

theorem pureN_congr {P : Program} {T : Nat} {ρ ρ' : Env} {st : Store} {o : O} {v : V} (h : ∀ x ∈ o.as, ev ρ x = ev ρ' x) (hp : pureN P T ρ st o v) : pureN P T ρ' st o v := by
  unfold pureN at *
  cases hc : callO o with
  | true => rw [hc] at hp; exact fun l hl => opW_congr h (hp l hl)
  | false => rw [hc] at hp; exact ⟨hp.1, opW_congr h hp.2⟩

theorem addN_congr {P : Program} {T : Nat} {ρ ρ' : Env} {st : Store} {o : O} {mk : Option Nat} {b : Blk} (h : ∀ x ∈ o.as, ev ρ x = ev ρ' x) (hp : addN P T ρ st o mk b) : addN P T ρ' st o mk b :=
  ⟨hp.1, hp.2.1, hp.2.2.1, fun l hl => opW_congr h (hp.2.2.2 l hl)⟩

theorem gN_congr {g : Option (Nat × Bool)} {ρ ρ' : Env} {A B : Prop} (h : ∀ j b, g = some (j, b) → lk ρ j = lk ρ' j) (hg : gN g ρ A B) : gN g ρ' A B := by
  unfold gN at *
  split at hg
  · exact hg
  · rename_i j b
    rw [← h j b rfl]; exact hg

theorem NF_congr {P : Program} {T : Nat} {p : Bool × CO} {ρ ρ' : Env} {st : Store} {q : Nat} {BF : List Blk} {v : V} (h : ∀ n ∈ p.2.reads, lk ρ n = lk ρ' n)
    (hq : gN p.2.g ρ ((p.1 = true ∧ ∃ mk b, addN P T ρ st p.2.o mk b ∧ v = mkV mk (st.length + q) 1 ∧ BF[q]? = some { b with ver := 1 }) ∨ (p.1 = false ∧ pureN P T ρ st p.2.o v)) (v = .un ∧ (p.1 = true → BF[q]? = some ph))) :
    gN p.2.g ρ' ((p.1 = true ∧ ∃ mk b, addN P T ρ' st p.2.o mk b ∧ v = mkV mk (st.length + q) 1 ∧ BF[q]? = some { b with ver := 1 }) ∨ (p.1 = false ∧ pureN P T ρ' st p.2.o v)) (v = .un ∧ (p.1 = true → BF[q]? = some ph)) := by
  have h1 : ∀ x ∈ p.2.o.as, ev ρ x = ev ρ' x := fun x hx => ev_congr fun n e => h n (by
    subst e
    exact List.mem_append_left _ (List.mem_filterMap.2 ⟨_, hx, rfl⟩))
  refine gN_congr (fun j b e => h j (by simp [CO.reads, e])) (gN_mono ?_ id hq)
  rintro (⟨hf, mk, b, ha, hv⟩ | ⟨hf, hp⟩)
  · exact .inl ⟨hf, mk, b, addN_congr h1 ha, hv⟩
  · exact .inr ⟨hf, pureN_congr h1 hp⟩

theorem nW_facts {P : Program} {T : Nat} {st : Store} : ∀ {hs : List (Nat × Bool × CO)} {ρ : Env} {B : List Blk} {K : Env → List Blk → Prop}, okc (hs.map (·.2.2)) = true → nW P T (hs.map (·.2)) ρ st B K →
    ∃ ρF B', K ρF (B ++ B') ∧ B'.length = cntA (hs.map (·.2)) ∧ (∀ k, (∀ c ∈ hs.map (·.2.2), c.d ≠ some k) → lk ρF k = lk ρ k) ∧ ∀ e ∈ ents hs B.length, NF P T e.2.2 ρF st e.2.1 (B ++ B') := by
  intro hs
  induction hs with
  | nil => intro ρ B K _ h; exact ⟨ρ, [], by simpa [nW] using h, rfl, fun _ _ => rfl, fun e he => by cases he⟩
  | cons p r ih =>
    obtain ⟨i, fl, co⟩ := p
    intro ρ B K hok h
    simp only [List.map_cons, okc, Bool.and_eq_true, List.all_eq_true] at hok
    obtain ⟨⟨hok1, hok2⟩, hok3⟩ := hok
    obtain ⟨v, b1, hq, hn⟩ : ∃ v, ∃ b1 : List Blk, (∀ BF : List Blk, (∀ x, b1 = [x] → BF[B.length]? = some x) → gN co.g ρ ((fl = true ∧ ∃ mk b, addN P T ρ st co.o mk b ∧ v = mkV mk (st.length + B.length) 1 ∧ BF[B.length]? = some { b with ver := 1 }) ∨ (fl = false ∧ pureN P T ρ st co.o v)) (v = .un ∧ (fl = true → BF[B.length]? = some ph))) ∧
        (nW P T (r.map (·.2)) (put co.d v ρ) st (B ++ b1) K ∧ b1.length = bif fl then 1 else 0) := by
      cases fl with
      | true =>
        simp only [List.map_cons, nW] at h
        rcases gN_inv h with ⟨⟨mk, b, ha, hn⟩, hg⟩ | ⟨hn, hg⟩
        · exact ⟨_, [{ b with ver := 1 }], fun BF hBF => hg _ _ (.inl ⟨rfl, mk, b, ha, rfl, hBF _ rfl⟩), hn, rfl⟩
        · exact ⟨.un, [ph], fun BF hBF => hg _ _ ⟨rfl, fun _ => hBF _ rfl⟩, hn, rfl⟩
      | false =>
        simp only [List.map_cons, nW] at h
        rcases gN_inv h with ⟨⟨v, ha, hn⟩, hg⟩ | ⟨hn, hg⟩
        · exact ⟨v, [], fun BF hBF => hg _ _ (.inr ⟨rfl, ha⟩), by simpa using hn, rfl⟩
        · exact ⟨.un, [], fun BF hBF => hg _ _ ⟨rfl, fun h => by cases h⟩, by simpa using hn, rfl⟩
    obtain ⟨hn, hb1⟩ := hn
    obtain ⟨ρF, B', h1, hlen, h2, h3⟩ := ih hok3 hn
    have hd : ∀ t, (t ∈ co.reads ∨ co.d = some t) → ∀ c ∈ r.map (·.2.2), c.d ≠ some t := fun t ht c hc e => by
      have := hok2 c hc
      rw [e] at this
      simp only [Bool.and_eq_true, Bool.not_eq_true', bne_iff_ne, ne_eq] at this
      rcases ht with ht | ht
      · have := this.1; simp [ht] at this
      · exact this.2 ht
    refine ⟨ρF, b1 ++ B', by rw [← List.append_assoc]; exact h1, ?_, fun k hk => ?_, fun e he => ?_⟩
    · cases fl <;> simp only [List.map_cons, cntA, List.length_append, hb1, hlen, cond_true, cond_false] <;> omega
    · rw [h2 k fun c hc => hk c (List.mem_cons_of_mem _ hc), lk_put, if_neg (hk co (by simp))]
    · have hrest : ∀ e ∈ ents r (B ++ b1).length, NF P T e.2.2 ρF st e.2.1 (B ++ (b1 ++ B')) := fun e he => by
        rw [← List.append_assoc]; exact h3 e he
      have hfirst : NF P T (fl, co) ρF st B.length (B ++ (b1 ++ B')) := by
        refine ⟨v, NF_congr (p := (fl, co)) (fun n hn' => ?_) (hq _ fun x hx => ?_), fun d e => ?_⟩
        · rw [h2 n (hd n (.inl hn')), lk_put, if_neg]
          intro e
          rw [e] at hok1
          simp [hn'] at hok1
        · rw [hx]; simp
        · have e : co.d = some d := e
          rw [h2 d (hd d (.inr e)), lk_put, if_pos e]
      cases fl with
      | true =>
        simp only [cond_true] at hb1
        simp only [ents, List.mem_cons] at he
        rcases he with rfl | he
        · exact hfirst
        · exact hrest e (by rw [List.length_append, hb1]; exact he)
      | false =>
        simp only [cond_false] at hb1
        simp only [ents, List.mem_cons] at he
        rcases he with rfl | he
        · exact hfirst
        · exact hrest e (by rw [List.length_append, hb1]; exact he)

/-! ### Operations that leave the world alone -/

def stillO : O → Bool
  | .mv _ | .pk .. | .nc _ | .fa .. | .ia .. | .ex .. => true
  | _ => false

section
variable {P : Program} {st : Store} {μ : List Mu} {w : World} {R : Nat → Prop} {ρ : Env} {a : Act} {K : V → Store → Prop}

theorem still_op (hs : SOk st μ w R) (he : REnv st μ w R ρ a.tmps) (o : Oper) (hst : stillO (O.of o.op) = true) (h : opW P ρ st (O.of o.op) K) :
    ∃ val c, (∀ w2, (execOp a.eval o).run P w2 = .ok (.value val) w2) ∧ RepV st μ w R c val ∧ K c st := by
  cases ho : o.op <;> rw [ho] at h hst <;> try (simp [O.of, stillO] at hst; done)
  case move x => exact ⟨a.eval x, _, fun w2 => by simp [execOp, ho], ev_rep hs he x, h⟩
  case assign x => exact ⟨a.eval x, _, fun w2 => by simp [execOp, ho], ev_rep hs he x, h⟩
  case pick c x y =>
    simp only [O.of, opW] at h
    split at h
    · rename_i t ht
      have hc := ev_rep hs he c
      rw [ht] at hc
      exact ⟨if t then a.eval x else a.eval y, _, fun w2 => by simp [execOp, ho, hc.x_inv, asBool], sel_rep (ev_rep hs he x) (ev_rep hs he y), h⟩
    · exact h.elim
  case nilCheck x =>
    simp only [O.of, opW] at h
    have hx := ev_rep hs he x
    split at h
    · rename_i m sz f i j hv
      rw [hv] at hx
      obtain ⟨b, off, g, _, _, _, _, e⟩ := hx.ip_inv
      exact ⟨a.eval x, _, fun w2 => by simp [execOp, ho, e], hx, h⟩
    · rename_i id ver off hv
      rw [hv] at hx
      obtain ⟨k, hk, hver, h0, h⟩ := getB_inv h
      obtain ⟨mu, hm, h2, e⟩ := hx.ptr_get hk hver h0
      exact ⟨a.eval x, _, fun w2 => by simp [execOp, ho, e], hx, h⟩
    · rename_i g cs hv
      rw [hv] at hx
      obtain ⟨vs, _, _, e⟩ := hx.fn_inv
      exact ⟨a.eval x, _, fun w2 => by simp [execOp, ho, e], hx, h⟩
    · exact h.elim
  case fieldAddr t x k =>
    simp only [O.of, opW] at h
    have hx := ev_rep hs he x
    split at h
    · rename_i off ft hf
      obtain ⟨fs, f, hu, hk, rfl, rfl⟩ := fo_inv hf
      split at h
      · rename_i n by' ag z hi
        obtain ⟨hn, h⟩ := h
        split at h
        · rename_i m sz g i j hv
          rw [hv] at hx
          obtain ⟨b, o', g', hR, hi', hg, hff, e⟩ := hx.ip_inv
          refine ⟨.pointer (some ⟨b, o' + i * sz + (j + f.offset), none⟩), _, fun w2 => ?_, .imm (.ip _ _ _ _ _ _ _ _ hR hi' hg hff), h⟩
          simp [execOp, ho, Instr.fieldAt, run_und w2 hu, hk, Instr.sureAddr, e, fieldPlace, run_size w2 hi, hn, add_addr, Nat.add_assoc]
        · rename_i id ver off hv
          rw [hv] at hx
          obtain ⟨b, hb, hver, h0, h⟩ := getB_inv h
          obtain ⟨mu, hm, h2, e⟩ := hx.ptr_get hb hver h0
          refine ⟨.pointer (some ⟨mu.b, mu.base + (off + f.offset), none⟩), _, fun w2 => ?_, .ptr id ver _ b mu _ hb hm (by omega) trivial (fun _ _ => ⟨h2, rfl⟩), h⟩
          simp [execOp, ho, Instr.fieldAt, run_und w2 hu, hk, Instr.sureAddr, e, fieldPlace, run_size w2 hi, hn, add_addr, Nat.add_assoc]
        · exact h.elim
      · exact h.elim
    · exact h.elim
  case extract x k =>
    simp only [O.of, opW] at h
    have hx := ev_rep hs he x
    split at h
    · rename_i cs hv
      rw [hv] at hx
      obtain ⟨vs, hl, hh, e⟩ := hx.tup_inv
      split at h
      · rename_i c hc
        have hlt := getElem?_lt hc
        have hv' : vs[k]? = some vs[k] := List.getElem?_eq_getElem (by omega)
        refine ⟨vs[k], _, fun w2 => ?_, hh _ c _ hc hv', h⟩
        simp [execOp, ho, e, Instr.extract, hv']
      · exact h.elim
    · exact h.elim
  case indexAddr t x i =>
    simp only [O.of, opW] at h
    have hx := ev_rep hs he x
    have hi := ev_rep hs he i
    split at h
    · rename_i ik n hn
      rw [hn] at hi
      split at h
      · rename_i e hel
        have hu := el_inv hel
        split at h
        · rename_i sz by' ag z hinf
          split at h
          · rename_i m s f hv
            rw [hv] at hx
            obtain ⟨rfl, h0, h1, h⟩ := h
            rcases hx.sl_inv.sl_inv with ⟨rfl, _⟩ | ⟨b, off, cap, g, hR, hc, hg, hf, e'⟩
            · omega
            · refine ⟨.pointer (some ⟨b, off + n.toNat * s + 0, none⟩), _, fun w2 => ?_, .imm (.ip _ _ _ _ _ _ _ g (hR (by omega)) (by omega) hg hf), h⟩
              simp [execOp, ho, Instr.indexAt, asIntOf, hi.x_inv, run_und w2 hu, e', h0, h1, run_size w2 hinf, add_addr]
          · rename_i id ver off m hv
            rw [hv] at hx
            obtain ⟨b, hb, hver, h0, rfl, h3, h4, h⟩ := getB_inv h
            obtain ⟨mu, hm, hr⟩ := hx.ref_get hb hver h0
            rcases hr with ⟨_, _, q, _⟩ | ⟨h2, _, cap, e', _, _⟩ | ⟨_, q, _⟩
            · omega
            · refine ⟨.pointer (some ⟨mu.b, mu.base + (off + n.toNat) * b.sz, none⟩), _, fun w2 => ?_, .ptr id ver _ b mu _ hb hm (by omega) trivial (fun _ _ => ⟨h2, rfl⟩), h⟩
              simp [execOp, ho, Instr.indexAt, asIntOf, hi.x_inv, run_und w2 hu, e', h3, h4, run_size w2 hinf, add_addr, Nat.add_mul, Nat.add_assoc]
            · omega
          · exact h.elim
        · exact h.elim
      · split at h
        · rename_i m e har
          have hu := arr_inv har
          split at h
          · rename_i sz by' ag z hinf
            split at h
            · rename_i id ver off hv
              rw [hv] at hx
              obtain ⟨b, hb, hver, h0, h3, h4, h⟩ := getB_inv h
              obtain ⟨mu, hm, h2, e'⟩ := hx.ptr_get hb hver h0
              refine ⟨.pointer (some ⟨mu.b, mu.base + (off + n.toNat * sz), none⟩), _, fun w2 => ?_, .ptr id ver _ b mu _ hb hm (by omega) trivial (fun _ _ => ⟨h2, rfl⟩), h⟩
              simp [execOp, ho, Instr.indexAt, asIntOf, hi.x_inv, run_und w2 hu, e', Instr.sureAddr, h3, h4, run_size w2 hinf, add_addr, Nat.add_assoc]
            · rename_i m' sz' g i' j' hv
              rw [hv] at hx
              obtain ⟨h3, h4, h⟩ := h
              obtain ⟨b, o', g', hR, hi', hg, hff, e'⟩ := hx.ip_inv
              refine ⟨.pointer (some ⟨b, o' + i' * sz' + (j' + n.toNat * sz), none⟩), _, fun w2 => ?_, .imm (.ip _ _ _ _ _ _ _ _ hR hi' hg hff), h⟩
              simp [execOp, ho, Instr.indexAt, asIntOf, hi.x_inv, run_und w2 hu, e', Instr.sureAddr, h3, h4, run_size w2 hinf, add_addr, Nat.add_assoc]
            · exact h.elim
          · exact h.elim
        · exact h.elim
    · exact h.elim
  case makeFunc g first cs =>
    exfalso; simp only [O.of] at hst
    split at hst <;> simp [stillO] at hst
  case slice t x lo hi mx =>
    exfalso
    cases mx <;> simp [O.of, stillO] at hst
  case call c =>
    exfalso
    obtain ⟨callee, args, ts⟩ := c
    cases callee with
    | value x => cases x <;> simp [O.of, stillO] at hst
    | invoke r m => simp [O.of, stillO] at hst
    | builtin b => simp [O.of, stillO] at hst

end

end Go.VS
