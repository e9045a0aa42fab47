/- Contracts: their ends, and what may be let go of in between. -/
import Derived.Test.YtjklhbmkajabdaaDoorVs12
set_option linter.all false
namespace Go.VS
open Go Go.RowKit

theorem Spec.mono {P : Program} {f : Nat} {args : List V} {st : Store} {Q Q' : V → Store → Prop} (h : Spec P f args st Q) (hq : ∀ v st', Q v st' → Q' v st') : Spec P f args st Q' :=
  ⟨h.1, fun μ w R vals hs hl hv => (h.2 μ w R vals hs hl hv).mono fun e w' ⟨r, val, st', μ', R', h1, h2, h3, h4, h5⟩ => ⟨r, val, st', μ', R', h1, h2, h3, h4, hq _ _ h5⟩⟩

theorem Weak.refl {st0 : Store} {J : Env → Store → Prop} {ρ : Env} {st : Store} (h : J ρ st) : Weak st0 J ρ st :=
  fun _ _ _ μ w R _ _ hx hs he => ⟨ρ, st, μ, R, h, hs, he, hx⟩

theorem Fin.refl {st0 : Store} {Q : V → Store → Prop} {r : V} {st : Store} (h : Q r st) : Fin st0 Q r st :=
  fun _ _ _ μ w R _ _ hx hs he => ⟨r, st, μ, R, h, hx, hs, he⟩

/-- The first store, or one whose blocks name none of the call's own. -/
def Base (st0 st1 : Store) : Prop := st1.length = st0.length ∧ ∀ (i : Nat) b, st1[i]? = some b → b.kind = 2 → (st0[i]? = some b ∨ V.under.all st0.length b.cells = true)

theorem Base.refl (st0 : Store) : Base st0 st0 := ⟨rfl, fun _ _ h _ => .inl h⟩

theorem Base.set {st0 st1 : Store} (h : Base st0 st1) (id : Nat) (b : Blk) (hb : V.under.all st0.length b.cells = true) : Base st0 (st1.set id b) := by
  refine ⟨by simp [h.1], fun i b' hi h2 => ?_⟩
  rcases getElem?_set' hi with ⟨rfl, rfl, _⟩ | ⟨_, hi⟩
  · exact .inr hb
  · exact h.2 i b' hi h2

theorem Base.under {st0 st1 : Store} {μ0 : List Mu} {w0 : World} {R0 : Nat → Prop} (h : Base st0 st1) (hs0 : SOk st0 μ0 w0 R0) : ∀ (i : Nat) b, st1[i]? = some b → b.kind = 2 → V.under.all st0.length b.cells = true := fun i b hi h2 => by
  rcases h.2 i b hi h2 with h' | h'
  · exact hs0.under (Nat.le_refl _) i b h' h2
  · exact h'

theorem take_base {st1 l : Store} {m : Nat} (h : st1.length = m) : (st1 ++ l).take m = st1 := by subst h; simp

theorem Fin.pure {st0 st1 l : Store} {Q : V → Store → Prop} {r : V} (hb : Base st0 st1) (hp : r.pure = true) (h : Q r st1) : Fin st0 Q r (st1 ++ l) := by
  intro μ0 w0 R0 μ w R val hs0 hx hs hr
  refine ⟨r, st1, μ.take st0.length, R, h, ?_, ?_, .imm (hr.toI hp)⟩
  · have := hx.trunc (m := st0.length) (Nat.le_refl _)
    rwa [take_base hb.1] at this
  · have := hs.trunc (m := st0.length) (fun i k hk hi h2 => by
      rw [List.getElem?_append_left (by rw [hb.1]; exact hi)] at hk
      exact hb.under hs0 i k hk h2)
    rwa [take_base hb.1] at this

theorem Fin.pure0 {st0 : Store} {Q : V → Store → Prop} {r : V} (hp : r.pure = true) (h : Q r st0) : Fin st0 Q r st0 := by
  have := Fin.pure (l := []) (Base.refl st0) hp h
  rwa [List.append_nil] at this

/-! ### Freezing: a block's own slices become immutable ones, wherever they are named -/

def frzC (k : Blk) (off n : Nat) : V := .sl n k.sz (cut n k.sz fun a b => (k.cells[(off + a) * k.sz + b]?).getD .bad)

def V.frz (id : Nat) (k : Blk) : V → V
  | .ref i ver off n => if i = id ∧ ver = k.ver then frzC k off n else .ref i ver off n
  | .agg cs => .agg (all cs)
  | .tup cs => .tup (all cs)
  | .fn g cs => .fn g (all cs)
  | v => v
where all : List V → List V
  | [] => []
  | c :: r => c.frz id k :: all r

theorem V.frz_all (id : Nat) (k : Blk) : ∀ cs : List V, V.frz.all id k cs = cs.map (V.frz id k)
  | [] => rfl
  | c :: r => by rw [V.frz.all, List.map_cons, V.frz_all id k r]

theorem RepI.frz {w : World} {R : Nat → Prop} {id : Nat} {k : Blk} {c : V} {v : Value} (h : RepI w R c v) : RepI w R (c.frz id k) v := by
  have parts : ∀ {cs : List V} {vs : List Value}, (∀ (i : Nat) c v, cs[i]? = some c → vs[i]? = some v → RepI w R (c.frz id k) v) → ∀ (i : Nat) c v, (V.frz.all id k cs)[i]? = some c → vs[i]? = some v → RepI w R c v := fun ih i c v hc hv => by
    rw [V.frz_all, List.getElem?_map, Option.map_eq_some_iff] at hc
    obtain ⟨c', hc', rfl⟩ := hc
    exact ih i c' v hc' hv
  induction h with
  | x v => exact .x v
  | nil sz f => exact .nil sz f
  | sl n sz f b off cap g hR hc hg hf => exact .sl n sz f b off cap g hR hc hg hf
  | ip n sz f i j b off g hR hi hg hf => exact .ip n sz f i j b off g hR hi hg hf
  | agg cs vs hl h ih => exact .agg _ vs (by rw [V.frz_all]; simpa using hl) (parts ih)
  | tup cs vs hl h ih => exact .tup _ vs (by rw [V.frz_all]; simpa using hl) (parts ih)
  | fn g cs vs hl h ih => exact .fn g _ vs (by rw [V.frz_all]; simpa using hl) (parts ih)

/-- Value by value: what may stand for another in a store. -/
theorem RepV.frz {st st' : Store} {μ : List Mu} {w : World} {R R' : Nat → Prop} {id : Nat} {k : Blk} (hle : StLe st μ st' μ) (hR : ∀ b, R b → R' b) (hf : ∀ off n v, RepV st μ w R (.ref id k.ver off n) v → RepV st' μ w R' (frzC k off n) v)
    {c : V} {v : Value} (h : RepV st μ w R c v) : RepV st' μ w R' (c.frz id k) v := by
  have parts : ∀ {cs : List V} {vs : List Value}, (∀ (i : Nat) c v, cs[i]? = some c → vs[i]? = some v → RepV st' μ w R' (c.frz id k) v) → ∀ (i : Nat) c v, (V.frz.all id k cs)[i]? = some c → vs[i]? = some v → RepV st' μ w R' c v := fun ih i c v hc hv => by
    rw [V.frz_all, List.getElem?_map, Option.map_eq_some_iff] at hc
    obtain ⟨c', hc', rfl⟩ := hc
    exact ih i c' v hc' hv
  induction h with
  | imm h => exact .imm ((h.mono (fun _ _ => rfl) hR).frz)
  | bad v => exact .bad v
  | ref i ver off n b m v hk hm hv ho h =>
    unfold V.frz
    by_cases e : i = id ∧ ver = k.ver
    · obtain ⟨rfl, rfl⟩ := e
      rw [if_pos ⟨rfl, rfl⟩]
      exact hf off n v (.ref i _ off n b m v hk hm hv ho h)
    · rw [if_neg e]
      exact (RepV.ref (w := w) (R := R) i ver off n b m v hk hm hv ho h).mono hle (fun _ _ => rfl) hR
  | ptr i ver off b m v hk hm hv ho h => exact (RepV.ptr (w := w) (R := R) i ver off b m v hk hm hv ho h).mono hle (fun _ _ => rfl) hR
  | agg cs vs hl h ih => exact .agg _ vs (by rw [V.frz_all]; simpa using hl) (parts ih)
  | tup cs vs hl h ih => exact .tup _ vs (by rw [V.frz_all]; simpa using hl) (parts ih)
  | fn g cs vs hl h ih => exact .fn g _ vs (by rw [V.frz_all]; simpa using hl) (parts ih)

def Blk.frz (id : Nat) (k : Blk) (b : Blk) : Blk := { b with cells := bif b.kind == 2 then b.cells.map (V.frz id k) else b.cells }

theorem V.frz_under {id m : Nat} {k : Blk} (hid : m ≤ id) : ∀ {c : V}, c.under m = true → c.frz id k = c
  | .ref i ver off n, h => by
    simp only [V.under, Nat.blt_eq] at h
    simp only [V.frz]
    rw [if_neg]
    rintro ⟨rfl, _⟩
    omega
  | .agg cs, h => by simp only [V.frz]; rw [all (by simpa [V.under] using h)]
  | .tup cs, h => by simp only [V.frz]; rw [all (by simpa [V.under] using h)]
  | .fn g cs, h => by simp only [V.frz]; rw [all (by simpa [V.under] using h)]
  | .x _, _ => rfl
  | .sl .., _ => rfl
  | .ip .., _ => rfl
  | .ptr .., _ => rfl
  | .bad, _ => rfl
where all : ∀ {cs : List V}, V.under.all m cs = true → V.frz.all id k cs = cs
  | [], _ => rfl
  | c :: r, h => by
    simp only [V.under.all, Bool.and_eq_true] at h
    rw [V.frz.all, V.frz_under hid h.1, all h.2]

theorem frz_base {st0 st1 : Store} {μ0 : List Mu} {w0 : World} {R0 : Nat → Prop} (hb : Base st0 st1) (hs0 : SOk st0 μ0 w0 R0) {id : Nat} (hid : st0.length ≤ id) (k : Blk) : st1.map (Blk.frz id k) = st1 := by
  apply List.ext_getElem? fun i => ?_
  rw [List.getElem?_map]
  cases hi : st1[i]? with
  | none => rfl
  | some b =>
    simp only [Option.map_some, Option.some.injEq]
    unfold Blk.frz
    by_cases h2 : b.kind = 2
    · have hu := hb.under hs0 i b hi h2
      have : b.cells.map (V.frz id k) = b.cells := by
        rw [← V.frz_all]; exact V.frz_under.all hid hu
      simp only [this]
      cases b; simp
    · have : (b.kind == 2) = false := by simpa using h2
      rw [this]; cases b; rfl

/-- The whole store, a block frozen. -/
def frzS (id : Nat) (k : Blk) (st : Store) : Store := (st.set id { k with kind := 0 }).map (Blk.frz id k)

theorem frzS_ok {st : Store} {μ : List Mu} {w : World} {R : Nat → Prop} (hs : SOk st μ w R) {id : Nat} {k : Blk} (hk : st[id]? = some k) (h2 : k.kind ≠ 0) (hp : V.pure.all k.cells = true) : ∃ R',
    SOk (frzS id k st) μ w R' ∧ Ext st μ w R (frzS id k st) μ w R' ∧ ∀ c v, RepV st μ w R c v → RepV (frzS id k st) μ w R' (c.frz id k) v := by
  have hlt := getElem?_lt hk
  have hm : μ[id]? = some (μ[id]'(by rw [hs.len]; exact hlt)) := List.getElem?_eq_getElem _
  generalize (μ[id]'(by rw [hs.len]; exact hlt)) = m at hm
  -- first the plain freezing
  obtain ⟨R', hs1, hx1, hf1⟩ : ∃ R', SOk (st.set id { k with kind := 0 }) μ w R' ∧ Ext st μ w R (st.set id { k with kind := 0 }) μ w R' ∧ ∀ off n v, RepV st μ w R (.ref id k.ver off n) v → RepI w R' (frzC k off n) v := by
    by_cases h : k.kind = 2
    · obtain ⟨f1, f2, f3⟩ := freeze_ok hs hk hm h hp
      exact ⟨_, f1, f2, f3⟩
    · have hle : StLe st μ (st.set id { k with kind := 0 }) μ := fun i k' m' hk' hm' => by
        by_cases e : i = id
        · subst e
          rw [hk] at hk'; cases hk'
          exact ⟨{ k with kind := 0 }, m', by rw [List.getElem?_set_self hlt], hm', Nat.le_refl _, fun _ h => absurd rfl h⟩
        · exact ⟨k', m', by rw [List.getElem?_set_ne (Ne.symm e)]; exact hk', hm', Nat.le_refl _, fun _ _ => ⟨rfl, rfl, rfl, rfl⟩⟩
      refine ⟨R, ⟨by simp [hs.len], hs.lt, hs.glob, fun i k' m' hk' hm' hkind => ?_, fun i k' hk' hkind => ?_, fun i j k1 k2 m1 m2 hij g1 g2 g3 g4 g5 g6 => ?_⟩, ⟨rfl, rfl, rfl, Nat.le_refl _, fun _ _ _ => rfl, fun _ h => h, fun _ h => .inl h, fun b hb => ?_, hle⟩, fun off n v hv => ?_⟩
      · rcases getElem?_set' hk' with ⟨rfl, rfl, _⟩ | ⟨hne, hk''⟩
        · cases hkind
        · obtain ⟨arr', ty', ha', hsz', hbd', hnR', hc'⟩ := hs.liv i k' m' hk'' hm' hkind
          exact ⟨arr', ty', ha', hsz', hbd', hnR', fun j c hj => by
            obtain ⟨v, q1, q2, q3⟩ := hc' j c hj
            exact ⟨v, q1, q2, q3.mono hle (fun _ _ => rfl) (fun _ h => h)⟩⟩
      · rcases getElem?_set' hk' with ⟨rfl, rfl, _⟩ | ⟨hne, hk''⟩
        · cases hkind
        · exact hs.vir i k' hk'' hkind
      · rcases getElem?_set' g1 with ⟨rfl, rfl, _⟩ | ⟨_, g1⟩
        · cases g5
        · rcases getElem?_set' g2 with ⟨rfl, rfl, _⟩ | ⟨_, g2⟩
          · cases g6
          · exact hs.dis i j k1 k2 m1 m2 hij g1 g2 g3 g4 g5 g6
      · obtain ⟨i, k', m', hk', hm', hkind, e⟩ := hb
        rcases getElem?_set' hk' with ⟨rfl, rfl, _⟩ | ⟨hne, hk''⟩
        · cases hkind
        · exact .inr ⟨i, k', m', hk'', hm', hkind, e⟩
      · obtain ⟨mu, hmu, hr⟩ := hv.ref_get hk rfl h2
        rcases hr with ⟨q, rfl, rfl, rfl⟩ | ⟨q, _⟩ | ⟨q, _⟩
        · exact .nil _ _
        · exact absurd q h
        · exact absurd q h
  -- then the names of it
  have hle : StLe (st.set id { k with kind := 0 }) μ (frzS id k st) μ := fun i k' m' hk' hm' =>
    ⟨Blk.frz id k k', m', by rw [frzS, List.getElem?_map, hk']; rfl, hm', Nat.le_refl _, fun _ _ => ⟨rfl, rfl, by unfold Blk.frz; cases (k'.kind == 2) <;> simp, rfl⟩⟩
  have key : ∀ {c : V} {v : Value}, RepV st μ w R c v → RepV (frzS id k st) μ w R' (c.frz id k) v := fun h =>
    RepV.frz (hx1.stle.trans hle) hx1.sub (fun off n v hv => .imm (hf1 off n v hv)) h
  have hown : ∀ b, Owns (frzS id k st) μ b → Owns (st.set id { k with kind := 0 }) μ b := fun b ⟨i, k', m', h1, h2, h3, h4⟩ => by
    rw [frzS, List.getElem?_map, Option.map_eq_some_iff] at h1
    obtain ⟨k'', hk'', rfl⟩ := h1
    exact ⟨i, k'', m', hk'', h2, h3, h4⟩
  refine ⟨R', ⟨by simp [frzS, hs.len], hs1.lt, hs1.glob, fun i k' m' hk' hm' hkind => ?_, fun i k' hk' hkind => ?_, fun i j k1 k2 m1 m2 hij g1 g2 g3 g4 g5 g6 => ?_⟩,
    ⟨rfl, rfl, rfl, Nat.le_refl _, fun _ _ _ => rfl, hx1.sub, hx1.new, fun b hb => hx1.own b (hown b hb), hx1.stle.trans hle⟩, fun c v h => key h⟩
  · rw [frzS, List.getElem?_map, Option.map_eq_some_iff] at hk'
    obtain ⟨k'', hk'', rfl⟩ := hk'
    have hkind : k''.kind = 2 := hkind
    obtain ⟨arr', ty', ha', hsz', hbd', hnR', hc'⟩ := hs1.liv i k'' m' hk'' hm' hkind
    have hcells : (Blk.frz id k k'').cells = k''.cells.map (V.frz id k) := by simp [Blk.frz, hkind]
    refine ⟨arr', ty', ha', hsz', by rw [hcells]; simpa using hbd', hnR', fun j c hj => ?_⟩
    rw [hcells, List.getElem?_map, Option.map_eq_some_iff] at hj
    obtain ⟨c', hc'', rfl⟩ := hj
    -- the same cell before
    have hst : st[i]? = some k'' := by
      rcases getElem?_set' hk'' with ⟨rfl, rfl, _⟩ | ⟨_, h⟩
      · cases hkind
      · exact h
    obtain ⟨arr2, ty2, ha2, _, _, _, hc2⟩ := hs.liv i k'' m' hst hm' hkind
    rw [ha2] at ha'; cases ha'
    obtain ⟨v, q1, q2, q3⟩ := hc2 j c' hc''
    exact ⟨v, q1, q2, key q3⟩
  · rw [frzS, List.getElem?_map, Option.map_eq_some_iff] at hk'
    obtain ⟨k'', hk'', rfl⟩ := hk'
    have hkind : k''.kind = 1 := hkind
    have := hs1.vir i k'' hk'' hkind
    simp [Blk.frz, hkind, this]
  · rw [frzS, List.getElem?_map, Option.map_eq_some_iff] at g1 g2
    obtain ⟨a1, h1, rfl⟩ := g1
    obtain ⟨a2, h2, rfl⟩ := g2
    exact hs1.dis i j a1 a2 m1 m2 hij h1 h2 g3 g4 g5 g6

/-- The call's own blocks, one frozen. -/
def frzL (id j : Nat) (k : Blk) (l : Store) : Store := (l.set j { k with kind := 0 }).map (Blk.frz id k)

theorem frzS_own {st0 st1 l : Store} {μ0 : List Mu} {w0 : World} {R0 : Nat → Prop} (hb : Base st0 st1) (hs0 : SOk st0 μ0 w0 R0) {j : Nat} {k : Blk} : frzS (st0.length + j) k (st1 ++ l) = st1 ++ frzL (st0.length + j) j k l := by
  unfold frzS frzL
  rw [List.set_append_right _ _ (by rw [hb.1]; omega), List.map_append, frz_base hb hs0 (by omega), hb.1]
  simp

theorem Fin.frz {st0 st1 l : Store} {Q : V → Store → Prop} {r : V} (hb : Base st0 st1) (j : Nat) (k : Blk) (hj : l[j]? = some k) (h2 : k.kind ≠ 0) (hp : V.pure.all k.cells = true)
    (h : Fin st0 Q (r.frz (st0.length + j) k) (st1 ++ frzL (st0.length + j) j k l)) : Fin st0 Q r (st1 ++ l) := by
  intro μ0 w0 R0 μ w R val hs0 hx hs hr
  have hk : (st1 ++ l)[st0.length + j]? = some k := by rw [List.getElem?_append_right (by rw [hb.1]; omega), hb.1]; simpa using hj
  obtain ⟨R', f1, f2, f3⟩ := frzS_ok hs hk h2 hp
  rw [frzS_own hb hs0] at f1 f2 f3
  exact h μ0 w0 R0 μ w R' val hs0 (hx.trans f2) f1 (f3 r val hr)

def frzE (id : Nat) (k : Blk) (ρ : Env) : Env := ρ.map fun p => (p.1, p.2.frz id k)

theorem lk_frzE (id : Nat) (k : Blk) : ∀ (ρ : Env) (n : Nat), lk (frzE id k ρ) n = (lk ρ n).frz id k
  | [], _ => rfl
  | (i, v) :: r, n => by
    simp only [frzE, List.map_cons, lk]
    split
    · rfl
    · exact lk_frzE id k r n

theorem Weak.frz {st0 st1 l : Store} {J : Env → Store → Prop} {ρ : Env} (hb : Base st0 st1) (j : Nat) (k : Blk) (hj : l[j]? = some k) (h2 : k.kind ≠ 0) (hp : V.pure.all k.cells = true)
    (h : Weak st0 J (frzE (st0.length + j) k ρ) (st1 ++ frzL (st0.length + j) j k l)) : Weak st0 J ρ (st1 ++ l) := by
  intro μ0 w0 R0 μ w R tmps hs0 hx hs he
  have hk : (st1 ++ l)[st0.length + j]? = some k := by rw [List.getElem?_append_right (by rw [hb.1]; omega), hb.1]; simpa using hj
  obtain ⟨R', f1, f2, f3⟩ := frzS_ok hs hk h2 hp
  rw [frzS_own hb hs0] at f1 f2 f3
  exact h μ0 w0 R0 μ w R' tmps hs0 (hx.trans f2) f1 fun n => by rw [lk_frzE]; exact f3 _ _ (he n)

/-- The last blocks let go. -/
def cl (m : Nat) (v : V) : V := bif v.under m then v else .bad

def cleanE (m : Nat) (ρ : Env) : Env := ρ.map fun p => (p.1, cl m p.2)

theorem lk_cleanE (m : Nat) : ∀ (ρ : Env) (n : Nat), lk (cleanE m ρ) n = cl m (lk ρ n)
  | [], _ => rfl
  | (i, v) :: r, n => by
    simp only [cleanE, List.map_cons, lk]
    split
    · rfl
    · exact lk_cleanE m r n

theorem Weak.trunc {st0 st1 l l' : Store} {J : Env → Store → Prop} {ρ : Env} (hb : Base st0 st1) (hl : ∀ b ∈ l, b.kind = 2 → V.under.all (st0.length + l.length) b.cells = true)
    (h : Weak st0 J (cleanE (st0.length + l.length) ρ) (st1 ++ l)) : Weak st0 J ρ (st1 ++ (l ++ l')) := by
  intro μ0 w0 R0 μ w R tmps hs0 hx hs he
  have e : (st1 ++ (l ++ l')).take (st0.length + l.length) = st1 ++ l := by rw [← List.append_assoc]; exact take_base (by simp [hb.1])
  have t1 := hs.trunc (m := st0.length + l.length) (fun i k hk hi h2 => by
    by_cases h' : i < st1.length
    · rw [List.getElem?_append_left h'] at hk
      have := hb.under hs0 i k hk h2
      refine V.all_under fun q c hc => ?_
      have hq := V.under_all this q c hc
      exact under_mono (by omega) hq
    · have := hb.1
      rw [List.getElem?_append_right (by omega), List.getElem?_append_left (by omega)] at hk
      exact hl k (List.mem_of_getElem? hk) h2)
  have t2 := hx.trunc (m := st0.length + l.length) (by omega)
  rw [e] at t1 t2
  refine h μ0 w0 R0 _ w R tmps hs0 t2 t1 fun n => ?_
  rw [lk_cleanE]
  unfold cl
  cases hu : (lk ρ n).under (st0.length + l.length) with
  | true =>
    have := (he n).trunc hu
    rw [e] at this
    simpa using this
  | false => exact .bad _
where
  under_mono {m m' : Nat} (h : m ≤ m') : ∀ {c : V}, c.under m = true → c.under m' = true
    | .ref .., hc => by simp only [V.under, Nat.blt_eq] at *; omega
    | .ptr .., hc => by simp only [V.under, Nat.blt_eq] at *; omega
    | .agg cs, hc => all h (by simpa [V.under] using hc)
    | .tup cs, hc => all h (by simpa [V.under] using hc)
    | .fn g cs, hc => all h (by simpa [V.under] using hc)
    | .x _, _ => rfl
    | .sl .., _ => rfl
    | .ip .., _ => rfl
    | .bad, _ => rfl
  all {m m' : Nat} (h : m ≤ m') : ∀ {cs : List V}, V.under.all m cs = true → V.under.all m' cs = true
    | [], _ => rfl
    | c :: r, hc => by
      simp only [V.under.all, Bool.and_eq_true] at *
      exact ⟨under_mono h hc.1, all h hc.2⟩

/-- A nil slice that will be appended to. -/
theorem Weak.nil {st0 st : Store} {J : Env → Store → Prop} {ρ : Env} (s sz : Nat) (hs : lk ρ s = .x (.slice none 0 0)) (h : Weak st0 J ((s, .ref st.length 0 0 0) :: ρ) (st ++ [⟨1, 0, sz, []⟩])) : Weak st0 J ρ st := by
  intro μ0 w0 R0 μ w R tmps hs0 hx hsok he
  obtain ⟨f1, f2⟩ := push_nil_ok hsok ⟨1, 0, sz, []⟩ (.inr ⟨rfl, rfl⟩)
  refine h μ0 w0 R0 _ w R tmps hs0 (hx.trans f2) f1 fun n => ?_
  simp only [lk]
  split
  · rename_i e
    subst e
    have hv := he s
    rw [hs] at hv
    rw [hv.x_inv]
    exact .ref _ 0 0 0 ⟨1, 0, sz, []⟩ _ _ (by simp) (show (μ ++ [⟨0, 0, 0⟩])[st.length]? = some ⟨0, 0, 0⟩ by rw [← hsok.len]; simp) (Nat.le_refl _) trivial (fun _ _ => .inl ⟨rfl, rfl, rfl, rfl⟩)
  · exact (he n).ext hsok f2

end Go.VS
