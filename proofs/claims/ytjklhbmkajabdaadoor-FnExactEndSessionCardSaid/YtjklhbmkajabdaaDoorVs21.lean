/- Calls over arguments that are seen as immutable: what is handed back is new. -/
import Derived.Test.YtjklhbmkajabdaaDoorVs20
set_option linter.all false
namespace Go.VS
open Go Go.RowKit

/-- Block b is one of the store's, from number m on. -/
def OwnsF (m : Nat) (st : Store) (μ : List Mu) (b : Nat) : Prop := ∃ i : Nat, ∃ k q, m ≤ i ∧ st[i]? = some k ∧ μ[i]? = some q ∧ k.kind = 2 ∧ q.b = b

/-- What is read through c stands for c', as long as the store's blocks from m on stay. -/
def Sees (m : Nat) (st : Store) (c c' : V) : Prop := ∀ μ w R v, SOk st μ w R → RepV st μ w R c v → RepI w (fun b => R b ∨ OwnsF m st μ b) c' v

theorem Sees.pure {m : Nat} {st : Store} {c : V} (h : c.pure = true) : Sees m st c c := fun _ _ _ _ _ hr => (hr.toI h).mono (fun _ _ => rfl) (fun _ h => .inl h)

theorem RepV.parts_agg {st : Store} {μ : List Mu} {w : World} {R : Nat → Prop} {cs : List V} {v : Value} (h : RepV st μ w R (.agg cs) v) :
    ∃ vs : List Value, v = .agg vs.toArray ∧ cs.length = vs.length ∧ ∀ (k : Nat) c v, cs[k]? = some c → vs[k]? = some v → RepV st μ w R c v := by
  cases h with
  | imm h => cases h with
    | agg cs vs hl h => exact ⟨vs, rfl, hl, fun k c v hc hv => .imm (h k c v hc hv)⟩
  | agg cs vs hl h => exact ⟨vs, rfl, hl, h⟩

theorem RepV.parts_tup {st : Store} {μ : List Mu} {w : World} {R : Nat → Prop} {cs : List V} {v : Value} (h : RepV st μ w R (.tup cs) v) :
    ∃ vs : List Value, v = .tuple vs.toArray ∧ cs.length = vs.length ∧ ∀ (k : Nat) c v, cs[k]? = some c → vs[k]? = some v → RepV st μ w R c v := by
  cases h with
  | imm h => cases h with
    | tup cs vs hl h => exact ⟨vs, rfl, hl, fun k c v hc hv => .imm (h k c v hc hv)⟩
  | tup cs vs hl h => exact ⟨vs, rfl, hl, h⟩

/-- Part by part. -/
def SeesA (m : Nat) (st : Store) : List V → List V → Prop
  | [], [] => True
  | c :: r, c' :: r' => Sees m st c c' ∧ SeesA m st r r'
  | _, _ => False

theorem SeesA.nil {m : Nat} {st : Store} : SeesA m st [] [] := trivial
theorem SeesA.cons {m : Nat} {st : Store} {c c' : V} {r r' : List V} (h : Sees m st c c') (hr : SeesA m st r r') : SeesA m st (c :: r) (c' :: r') := ⟨h, hr⟩
theorem SeesA.len {m : Nat} {st : Store} : ∀ {cs cs' : List V}, SeesA m st cs cs' → cs'.length = cs.length
  | [], [], _ => rfl
  | _ :: _, _ :: _, h => by simp only [List.length_cons]; rw [SeesA.len h.2]
  | [], _ :: _, h => h.elim
  | _ :: _, [], h => h.elim

theorem SeesA.get {m : Nat} {st : Store} : ∀ {cs cs' : List V}, SeesA m st cs cs' → ∀ (k : Nat) c c', cs[k]? = some c → cs'[k]? = some c' → Sees m st c c'
  | [], [], _, k, c, c', h, _ => by simp at h
  | x :: r, y :: r', h, k, c, c', hc, hc' => by
    cases k with
    | zero => simp at hc hc'; subst hc hc'; exact h.1
    | succ k => exact SeesA.get h.2 k c c' (by simpa using hc) (by simpa using hc')
  | [], _ :: _, h, _, _, _, _, _ => h.elim
  | _ :: _, [], h, _, _, _, _, _ => h.elim

theorem Sees.tup {m : Nat} {st : Store} {cs cs' : List V} (h : SeesA m st cs cs') : Sees m st (.tup cs) (.tup cs') := fun μ w R v hs hr => by
  obtain ⟨vs, rfl, h1, h2⟩ := hr.parts_tup
  refine .tup cs' vs (h.len.trans h1) fun k c v hc hv => ?_
  have hk : k < cs.length := by have := getElem?_lt hc; have := h.len; omega
  exact h.get k _ c (List.getElem?_eq_getElem hk) hc μ w R v hs (h2 k _ v (List.getElem?_eq_getElem hk) hv)

theorem Sees.aggA {m : Nat} {st : Store} {cs cs' : List V} (h : SeesA m st cs cs') : Sees m st (.agg cs) (.agg cs') := fun μ w R v hs hr => by
  obtain ⟨vs, rfl, h1, h2⟩ := hr.parts_agg
  refine .agg cs' vs (h.len.trans h1) fun k c v hc hv => ?_
  have hk : k < cs.length := by have := getElem?_lt hc; have := h.len; omega
  exact h.get k _ c (List.getElem?_eq_getElem hk) hc μ w R v hs (h2 k _ v (List.getElem?_eq_getElem hk) hv)

theorem Sees.agg {m : Nat} {st : Store} {cs cs' : List V} (hl : cs'.length = cs.length) (h : ∀ (k : Nat) c c', cs[k]? = some c → cs'[k]? = some c' → Sees m st c c') : Sees m st (.agg cs) (.agg cs') := fun μ w R v hs hr => by
  obtain ⟨vs, rfl, h1, h2⟩ := hr.parts_agg
  refine .agg cs' vs (hl.trans h1) fun k c v hc hv => ?_
  have hk : k < cs.length := by have := getElem?_lt hc; omega
  exact h k _ c (List.getElem?_eq_getElem hk) hc μ w R v hs (h2 k _ v (List.getElem?_eq_getElem hk) hv)

theorem Sees.ref {m : Nat} {st : Store} {id ver off n sz : Nat} {k : Blk} {f : Nat → Nat → V} (hmi : m ≤ id) (hk : st[id]? = some k) (hv : k.ver = ver) (h0 : k.kind ≠ 0) (hsz : k.sz = sz)
    (h : ∀ i j, i < n → j < sz → ∃ c, k.cells[(off + i) * sz + j]? = some c ∧ Sees m st c (f i j)) : Sees m st (.ref id ver off n) (.sl n sz f) := fun μ w R v hs hr => by
  subst hsz
  obtain ⟨m, hm, hro⟩ := hr.ref_get hk hv h0
  rcases hro with ⟨_, _, rfl, rfl⟩ | ⟨h2, hb, cap, rfl, hc, _⟩ | ⟨_, rfl, _, ad, rfl⟩
  · exact .nil _ _
  · obtain ⟨arr, ty, e1, e2, e3, e4, e5⟩ := hs.liv id k m hk hm h2
    refine .sl n k.sz f m.b (m.base + off * k.sz) cap (fun i j => (arr[m.base + off * k.sz + i * k.sz + j]?).getD undef) (fun _ => .inr ⟨id, k, m, hmi, hk, hm, h2, rfl⟩) hc (fun i j hi hj => ?_) (fun i j hi hj => ?_)
    · obtain ⟨c, hc', hs'⟩ := h i j hi hj
      obtain ⟨v, q1, q2, q3⟩ := e5 _ c hc'
      have e : m.base + off * k.sz + i * k.sz + j = m.base + ((off + i) * k.sz + j) := by rw [Nat.add_mul]; omega
      rw [cell_of (o := m.base + off * k.sz + i * k.sz + j) e1, e, q1]
      exact ⟨rfl, q2⟩
    · obtain ⟨c, hc', hs'⟩ := h i j hi hj
      obtain ⟨v, q1, q2, q3⟩ := e5 _ c hc'
      have e : m.base + off * k.sz + i * k.sz + j = m.base + ((off + i) * k.sz + j) := by rw [Nat.add_mul]; omega
      rw [e, q1]
      exact hs' μ w R v hs q3
  · exact .sl 0 k.sz f ad.1 ad.2 0 (fun _ _ => undef) (fun h => absurd h (by omega)) (Nat.le_refl _) (fun i j hi => absurd hi (by omega)) (fun i j hi => absurd hi (by omega))

/-- No memory but what is the call's own. -/
def V.fresh : V → Bool
  | .sl .. | .ip .. => false
  | .agg cs => all cs
  | .tup cs => all cs
  | .fn _ cs => all cs
  | _ => true
where all : List V → Bool
  | [] => true
  | c :: r => c.fresh && all r

theorem V.fresh_all {cs : List V} (h : V.fresh.all cs = true) : ∀ (k : Nat) c, cs[k]? = some c → c.fresh = true := by
  induction cs with
  | nil => intro k c hc; simp at hc
  | cons a r ih =>
    simp only [V.fresh.all, Bool.and_eq_true] at h
    intro k c hc
    cases k with
    | zero => simp at hc; subst hc; exact h.1
    | succ k => exact ih h.2 k c (by simpa using hc)

/-- Moved by so many blocks. -/
def V.up (m : Nat) : V → V
  | .ref id ver off n => .ref (m + id) ver off n
  | .ptr id ver off => .ptr (m + id) ver off
  | .agg cs => .agg (all cs)
  | .tup cs => .tup (all cs)
  | .fn g cs => .fn g (all cs)
  | v => v
where all : List V → List V
  | [] => []
  | c :: r => c.up m :: all r

theorem V.up_all (m : Nat) : ∀ cs : List V, V.up.all m cs = cs.map (V.up m)
  | [] => rfl
  | c :: r => by rw [V.up.all, List.map_cons, V.up_all m r]

def Blk.up (m : Nat) (k : Blk) : Blk := { k with cells := k.cells.map (V.up m) }

theorem RepV.up {st0 st : Store} {μ0 μ : List Mu} {w : World} {R R0 : Nat → Prop} (hl : μ0.length = st0.length) {c : V} {v : Value} (h : RepV st μ w R c v) (hf : c.fresh = true) :
    RepV (st0 ++ st.map (Blk.up st0.length)) (μ0 ++ μ) w R0 (c.up st0.length) v := by
  have parts : ∀ {cs : List V} {vs : List Value}, V.fresh.all cs = true → (∀ (i : Nat) c v, cs[i]? = some c → vs[i]? = some v → c.fresh = true → RepV (st0 ++ st.map (Blk.up st0.length)) (μ0 ++ μ) w R0 (c.up st0.length) v) →
      ∀ (i : Nat) c v, (V.up.all st0.length cs)[i]? = some c → vs[i]? = some v → RepV (st0 ++ st.map (Blk.up st0.length)) (μ0 ++ μ) w R0 c v := fun hf ih i c v hc hv => by
    rw [V.up_all, List.getElem?_map, Option.map_eq_some_iff] at hc
    obtain ⟨c', hc', rfl⟩ := hc
    exact ih i c' v hc' hv (V.fresh_all hf i c' hc')
  have imm : ∀ {c : V} {v : Value}, RepI w R c v → c.fresh = true → RepV (st0 ++ st.map (Blk.up st0.length)) (μ0 ++ μ) w R0 (c.up st0.length) v := by
    intro c v h hf
    induction h with
    | x v => exact .imm (.x v)
    | nil sz f => simp [V.fresh] at hf
    | sl => simp [V.fresh] at hf
    | ip => simp [V.fresh] at hf
    | agg cs vs hl h ih => exact .agg _ vs (by rw [V.up_all]; simpa using hl) (parts (by simpa [V.fresh] using hf) fun i c v hc hv hf => ih i c v hc hv hf)
    | tup cs vs hl h ih => exact .tup _ vs (by rw [V.up_all]; simpa using hl) (parts (by simpa [V.fresh] using hf) fun i c v hc hv hf => ih i c v hc hv hf)
    | fn g cs vs hl h ih => exact .fn g _ vs (by rw [V.up_all]; simpa using hl) (parts (by simpa [V.fresh] using hf) fun i c v hc hv hf => ih i c v hc hv hf)
  induction h with
  | imm h => exact imm h hf
  | bad v => exact .bad v
  | ref id ver off n k m v hk hm hv ho h =>
    refine .ref (st0.length + id) ver off n (k.up st0.length) m v (by rw [List.getElem?_append_right (by omega)]; simp [hk]) (by rw [← hl, List.getElem?_append_right (by omega)]; simp [hm]) hv ho fun e hn => ?_
    have := h e hn
    unfold RefOk at *
    simpa [Blk.up] using this
  | ptr id ver off k m v hk hm hv ho h =>
    refine .ptr (st0.length + id) ver off (k.up st0.length) m v (by rw [List.getElem?_append_right (by omega)]; simp [hk]) (by rw [← hl, List.getElem?_append_right (by omega)]; simp [hm]) hv ho fun e hn => ?_
    have := h e hn
    unfold PtrOk at *
    simpa [Blk.up] using this
  | agg cs vs hl h ih => exact .agg _ vs (by rw [V.up_all]; simpa using hl) (parts (by simpa [V.fresh] using hf) fun i c v hc hv hf => ih i c v hc hv hf)
  | tup cs vs hl h ih => exact .tup _ vs (by rw [V.up_all]; simpa using hl) (parts (by simpa [V.fresh] using hf) fun i c v hc hv hf => ih i c v hc hv hf)
  | fn g cs vs hl h ih => exact .fn g _ vs (by rw [V.up_all]; simpa using hl) (parts (by simpa [V.fresh] using hf) fun i c v hc hv hf => ih i c v hc hv hf)

/-- A call whose arguments are seen as immutable and that hands back new memory alone. -/
theorem Spec.see {P : Program} {f : Nat} {args args' : List V} {st : Store} {K : V → Store → Prop} (ha : args'.length = args.length) (hsee : ∀ (k : Nat) c c', args[k]? = some c → args'[k]? = some c' → Sees 0 st c c')
    (h : Spec P f args' [] fun r st' => r.fresh = true ∧ (∀ b ∈ st', V.fresh.all b.cells = true) ∧ K (r.up st.length) (st ++ st'.map (Blk.up st.length))) : Spec P f args st K := by
  refine ⟨h.1, fun μ w R vals hs hl hv => ?_⟩
  have hs0 : SOk [] [] w (fun b => R b ∨ OwnsF 0 st μ b) := by
    refine ⟨rfl, fun b hb => ?_, fun n c hg => (hs.glob n c hg).mono (fun _ _ => rfl) (fun _ h => .inl h), fun i k m hk => by simp at hk, fun i k hk => by simp at hk, fun i j k k' m m' _ hk => by simp at hk⟩
    rcases hb with hb | hb
    · exact hs.lt b hb
    · obtain ⟨i, k, q, _, h1, h2, h3, h4⟩ := hb
      exact hs.blt ⟨i, k, q, h1, h2, h3, h4⟩
  refine (h.2 [] w _ vals hs0 (by omega) (fun k c v hc hv' => ?_)).mono fun e w' ⟨r, val, st', μ', R', h1, h2, h3, h4, h5, h6, h7⟩ => ?_
  · have hk : k < args.length := by have := getElem?_lt hc; omega
    exact .imm (hsee k _ c (List.getElem?_eq_getElem hk) hc μ w R v hs (hv k _ v (List.getElem?_eq_getElem hk) hv'))
  have hkeep : ∀ b, b < w.heap.size → w'.heap[b]? = w.heap[b]? := fun b hb => h2.keep b hb (fun ⟨i, k, m, hk, _⟩ => by simp at hk)
  have old : ∀ {i : Nat} {k : Blk} {m : Mu}, (st ++ st'.map (Blk.up st.length))[i]? = some k → (μ ++ μ')[i]? = some m → (i < st.length ∧ st[i]? = some k ∧ μ[i]? = some m) ∨
      ∃ (q : Nat) (k' : Blk), i = st.length + q ∧ st'[q]? = some k' ∧ k = k'.up st.length ∧ μ'[q]? = some m := fun {i k m} hk hm => by
    by_cases hi : i < st.length
    · rw [List.getElem?_append_left hi] at hk
      rw [List.getElem?_append_left (by rw [hs.len]; exact hi)] at hm
      exact .inl ⟨hi, hk, hm⟩
    · rw [List.getElem?_append_right (by omega), List.getElem?_map, Option.map_eq_some_iff] at hk
      obtain ⟨k', hk', rfl⟩ := hk
      rw [List.getElem?_append_right (by rw [hs.len]; omega), hs.len] at hm
      exact .inr ⟨i - st.length, k', by omega, hk', rfl, hm⟩
  have hle : StLe st μ (st ++ st'.map (Blk.up st.length)) (μ ++ μ') := fun id k m hk hm => ⟨k, m, getElem?_left _ hk, getElem?_left _ hm, Nat.le_refl _, fun _ _ => ⟨rfl, rfl, rfl, rfl⟩⟩
  have hsz : ∀ {b}, Owns st' μ' b → w.heap.size ≤ b := fun hb => by
    rcases h2.own _ hb with h | ⟨i, k, m, hk, _⟩
    · exact h
    · simp at hk
  refine ⟨_, val, _, μ ++ μ', R, h1, ⟨h2.os, h2.tape, h2.output, h2.size, fun b hb _ => hkeep b hb, fun _ h => h, fun _ h => .inl h, fun b hbo => ?_, hle⟩,
    ⟨by simp [hs.len, h3.len], fun b hb => Nat.lt_of_lt_of_le (hs.lt b hb) h2.size, fun n c hg => (hs.glob n c hg).mono (fun b hb => hkeep b (hs.lt b hb)) (fun _ h => h), fun i k m hk hm hkd => ?_, fun i k hk hkd => ?_, fun i j k k' m m' hij g1 g2 g3 g4 g5 g6 => ?_⟩, h4.up hs.len h5, h7⟩
  · obtain ⟨i, k, m, hk, hm, hkd, e⟩ := hbo
    rcases old hk hm with ⟨_, g1, g2⟩ | ⟨q, k', rfl, g1, rfl, g2⟩
    · exact .inr ⟨i, k, m, g1, g2, hkd, e⟩
    · exact .inl (hsz ⟨q, k', m, g1, g2, hkd, e⟩)
  · rcases old hk hm with ⟨_, g1, g2⟩ | ⟨q, k', rfl, g1, rfl, g2⟩
    · obtain ⟨arr, ty, e1, q1, q2, q3, q4⟩ := hs.liv i k m g1 g2 hkd
      refine ⟨arr, ty, by rw [hkeep _ (Array.getElem?_eq_some_iff.1 e1).1]; exact e1, q1, q2, q3, fun j c hj => ?_⟩
      obtain ⟨v, p1, p2, p3⟩ := q4 j c hj
      exact ⟨v, p1, p2, p3.mono hle (fun b hb => hkeep b (hs.lt b hb)) (fun _ h => h)⟩
    · obtain ⟨arr, ty, e1, q1, q2, q3, q4⟩ := h3.liv q k' m g1 g2 hkd
      refine ⟨arr, ty, e1, q1, by simpa [Blk.up] using q2, fun hR => q3 (h2.sub _ (.inl hR)), fun j c hj => ?_⟩
      simp only [Blk.up, List.getElem?_map, Option.map_eq_some_iff] at hj
      obtain ⟨c', hc', rfl⟩ := hj
      obtain ⟨v, p1, p2, p3⟩ := q4 j c' hc'
      exact ⟨v, p1, p2, p3.up hs.len (V.fresh_all (h6 k' (List.mem_of_getElem? g1)) j c' hc')⟩
  · by_cases hi : i < st.length
    · rw [List.getElem?_append_left hi] at hk
      exact hs.vir i k hk hkd
    · rw [List.getElem?_append_right (by omega), List.getElem?_map, Option.map_eq_some_iff] at hk
      obtain ⟨k', hk', rfl⟩ := hk
      have := h3.vir _ k' hk' hkd
      simp [Blk.up, this]
  · rcases old g1 g3 with ⟨_, a1, a2⟩ | ⟨q, a, rfl, a1, rfl, a2⟩ <;> rcases old g2 g4 with ⟨_, b1, b2⟩ | ⟨q', b, rfl, b1, rfl, b2⟩
    · exact hs.dis i j k k' m m' hij a1 b1 a2 b2 g5 g6
    · have h1 := hs.blt ⟨i, k, m, a1, a2, g5, rfl⟩
      have h2 := hsz ⟨q', b, m', b1, b2, g6, rfl⟩
      omega
    · have h1 := hs.blt ⟨j, k', m', b1, b2, g6, rfl⟩
      have h2 := hsz ⟨q, a, m, a1, a2, g5, rfl⟩
      omega
    · exact h3.dis q q' a b m m' (by omega) a1 b1 a2 b2 g5 g6

theorem Spec.seeA {P : Program} {f : Nat} {args args' : List V} {st : Store} {K : V → Store → Prop} (ha : SeesA 0 st args args')
    (h : Spec P f args' [] fun r st' => r.fresh = true ∧ (∀ b ∈ st', V.fresh.all b.cells = true) ∧ K (r.up st.length) (st ++ st'.map (Blk.up st.length))) : Spec P f args st K :=
  Spec.see ha.len (fun k c c' => ha.get k c c') h

theorem V.flat_up {m : Nat} : ∀ {c : V}, c.flat = true → c.fresh = true ∧ c.up m = c
  | .x _, _ => ⟨rfl, rfl⟩
  | .agg cs, h => by
    have := all (m := m) (cs := cs) (by simpa [V.flat] using h)
    exact ⟨by simpa [V.fresh] using this.1, by simp only [V.up]; rw [this.2]⟩
  | .tup cs, h => by
    have := all (m := m) (cs := cs) (by simpa [V.flat] using h)
    exact ⟨by simpa [V.fresh] using this.1, by simp only [V.up]; rw [this.2]⟩
  | .sl .., h => by simp [V.flat] at h
  | .ip .., h => by simp [V.flat] at h
  | .ref .., h => by simp [V.flat] at h
  | .ptr .., h => by simp [V.flat] at h
  | .fn .., h => by simp [V.flat] at h
  | .bad, h => by simp [V.flat] at h
where all {m : Nat} : ∀ {cs : List V}, V.flat.all cs = true → V.fresh.all cs = true ∧ V.up.all m cs = cs
  | [], _ => ⟨rfl, rfl⟩
  | c :: r, h => by
    simp only [V.flat.all, Bool.and_eq_true] at h
    have h1 := V.flat_up (m := m) h.1
    have h2 := all (m := m) h.2
    exact ⟨by simp [V.fresh.all, h1.1, h2.1], by rw [V.up.all, h1.2, h2.2]⟩

/-- A call that only reads what is seen, and hands back no memory. -/
theorem Spec.seeF {P : Program} {f : Nat} {args args' : List V} {st : Store} {K : V → Store → Prop} (ha : SeesA 0 st args args')
    (h : Spec P f args' [] fun r st' => st' = [] ∧ r.flat = true ∧ K r st) : Spec P f args st K :=
  Spec.seeA ha (h.mono fun r st' ⟨h1, h2, h3⟩ => by
    subst h1
    have := V.flat_up (m := st.length) h2
    refine ⟨this.1, ⟨fun b hb => by simp at hb, ?_⟩⟩
    rw [this.2, List.map_nil, List.append_nil]
    exact h3)

/-- What is handed back is seen as immutable: the call's own blocks stay as they are. -/
theorem Fin.see {st0 st1 l : Store} {Q : V → Store → Prop} {r r' : V} (hb : Base st0 st1) (hse : Sees st0.length (st1 ++ l) r r') (h : Q r' st1) : Fin st0 Q r (st1 ++ l) := by
  intro μ0 w0 R0 μ w R val hs0 hx hs hr
  have t1 := hx.trunc (m := st0.length) (Nat.le_refl _)
  have t2 := hs.trunc (m := st0.length) (fun i k hk hi h2 => by
    rw [List.getElem?_append_left (by rw [hb.1]; exact hi)] at hk
    exact hb.under hs0 i k hk h2)
  rw [take_base hb.1] at t1 t2
  have hlt : ∀ b, (R b ∨ OwnsF st0.length (st1 ++ l) μ b) → b < w.heap.size := fun b hb => by
    rcases hb with hb | ⟨i, k, q, _, h1, h2, h3, h4⟩
    · exact hs.lt b hb
    · exact hs.blt ⟨i, k, q, h1, h2, h3, h4⟩
  refine ⟨r', st1, μ.take st0.length, fun b => R b ∨ OwnsF st0.length (st1 ++ l) μ b, h, ⟨t1.os, t1.tape, t1.output, t1.size, t1.keep, fun b hb => .inl (t1.sub b hb), fun b hb => ?_, t1.own, t1.stle⟩,
    ⟨t2.len, hlt, fun n c hg => (t2.glob n c hg).mono (fun _ _ => rfl) (fun _ h => .inl h), fun i k m hk hm h2 => ?_, t2.vir, t2.dis⟩, .imm (hse μ w R val hs hr)⟩
  · rcases hb with hb | ⟨i, k, q, _, h1, h2, h3, h4⟩
    · exact t1.new b hb
    · rcases hx.own b ⟨i, k, q, h1, h2, h3, h4⟩ with h | h
      · exact .inr (.inl h)
      · exact .inr (.inr h)
  · obtain ⟨arr, ty, q1, q2, q3, q4, q5⟩ := t2.liv i k m hk hm h2
    refine ⟨arr, ty, q1, q2, q3, fun hR => ?_, fun j c hj => ?_⟩
    · rcases hR with hR | ⟨i', k', q', hi', g1, g2, g3, g4⟩
      · exact q4 hR
      · have hi : i < st0.length := by have := getElem?_lt hk; rw [hb.1] at this; exact this
        exact hs.dis i i' k k' m q' (by omega) (getElem?_left l hk) g1 (getElem?_take' hm).2 g2 h2 g3 g4.symm
    · obtain ⟨v, p1, p2, p3⟩ := q5 j c hj
      exact ⟨v, p1, p2, p3.mono (StLe.refl _ _) (fun _ _ => rfl) (fun _ h => .inl h)⟩

attribute [go_sem] V.fresh V.fresh.all V.up V.up.all Blk.up

end Go.VS
