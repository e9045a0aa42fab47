/- Contracts: what only reads; results that the caller may write to. -/
import Derived.Test.YtjklhbmkajabdaaDoorVs14
set_option linter.all false
namespace Go.VS
open Go Go.RowKit

/-- A value with no memory in it. -/
def V.flat : V → Bool
  | .x _ => true
  | .agg cs => all cs
  | .tup cs => all cs
  | _ => false
where all : List V → Bool
  | [] => true
  | c :: r => c.flat && all r

theorem V.flat_all {cs : List V} (h : V.flat.all cs = true) : ∀ (k : Nat) c, cs[k]? = some c → c.flat = true := by
  induction cs with
  | nil => intro k c hc; simp at hc
  | cons a r ih =>
    simp only [V.flat.all, Bool.and_eq_true] at h
    intro k c hc
    cases k with
    | zero => simp at hc; subst hc; exact h.1
    | succ k => exact ih h.2 k c (by simpa using hc)

theorem RepV.flat {st st' : Store} {μ μ' : List Mu} {w w' : World} {R R' : Nat → Prop} {c : V} {v : Value} (h : RepV st μ w R c v) (hf : c.flat = true) : RepV st' μ' w' R' c v := by
  have imm : ∀ {c : V} {v : Value}, RepI w R c v → c.flat = true → RepI w' R' c v := by
    intro c v h hf
    induction h with
    | x v => exact .x v
    | agg cs vs hl h ih => exact .agg cs vs hl fun k c v hc hv => ih k c v hc hv (V.flat_all (by simpa [V.flat] using hf) k c hc)
    | tup cs vs hl h ih => exact .tup cs vs hl fun k c v hc hv => ih k c v hc hv (V.flat_all (by simpa [V.flat] using hf) k c hc)
    | _ => simp [V.flat] at hf
  induction h with
  | imm h => exact .imm (imm h hf)
  | agg cs vs hl h ih => exact .agg cs vs hl fun k c v hc hv => ih k c v hc hv (V.flat_all (by simpa [V.flat] using hf) k c hc)
  | tup cs vs hl h ih => exact .tup cs vs hl fun k c v hc hv => ih k c v hc hv (V.flat_all (by simpa [V.flat] using hf) k c hc)
  | _ => simp [V.flat] at hf

/-- A value as one that only reads it sees it. -/
def V.view (st : Store) : V → V
  | .ref id ver off n => match st[id]? with
    | some k => bif Nat.beq k.ver ver && !Nat.beq k.kind 0 && V.pure.all k.cells then frzC k off n else .bad
    | none => .bad
  | .ptr id ver off => match st[id]? with
    | some k => bif Nat.beq k.ver ver && !Nat.beq k.kind 0 && V.pure.all k.cells && Nat.blt 0 k.cells.length then .ip 1 k.cells.length (cut 1 k.cells.length fun _ j => (k.cells[j]?).getD .bad) 0 off else .bad
    | none => .bad
  | .agg cs => .agg (all cs)
  | .tup cs => .tup (all cs)
  | .fn g cs => .fn g (all cs)
  | v => v
where all : List V → List V
  | [] => []
  | c :: r => c.view st :: all r

theorem V.view_all (st : Store) : ∀ cs : List V, V.view.all st cs = cs.map (V.view st)
  | [] => rfl
  | c :: r => by rw [V.view.all, List.map_cons, V.view_all st r]

/-- The flat blocks of a store, as they may be read. -/
def Reads (st : Store) (μ : List Mu) (R : Nat → Prop) (b : Nat) : Prop := R b ∨ ∃ i : Nat, ∃ k m, st[i]? = some k ∧ μ[i]? = some m ∧ k.kind = 2 ∧ V.pure.all k.cells = true ∧ m.b = b

theorem view_rep {st : Store} {μ : List Mu} {w : World} {R : Nat → Prop} (hs : SOk st μ w R) {c : V} {v : Value} (h : RepV st μ w R c v) : RepV [] [] w (Reads st μ R) (c.view st) v := by
  have parts : ∀ {cs : List V} {vs : List Value}, (∀ (i : Nat) c v, cs[i]? = some c → vs[i]? = some v → RepV [] [] w (Reads st μ R) (c.view st) v) → ∀ (i : Nat) c v, (V.view.all st cs)[i]? = some c → vs[i]? = some v → RepV [] [] w (Reads st μ R) c v := fun ih i c v hc hv => by
    rw [V.view_all, List.getElem?_map, Option.map_eq_some_iff] at hc
    obtain ⟨c', hc', rfl⟩ := hc
    exact ih i c' v hc' hv
  have imm : ∀ {c : V} {v : Value}, RepI w R c v → RepV [] [] w (Reads st μ R) (c.view st) v := by
    intro c v h
    have hm := h.mono (w' := w) (R' := Reads st μ R) (fun _ _ => rfl) (fun _ h => .inl h)
    clear parts
    have parts : ∀ {cs : List V} {vs : List Value}, (∀ (i : Nat) c v, cs[i]? = some c → vs[i]? = some v → RepV [] [] w (Reads st μ R) (c.view st) v) → ∀ (i : Nat) c v, (V.view.all st cs)[i]? = some c → vs[i]? = some v → RepV [] [] w (Reads st μ R) c v := fun ih i c v hc hv => by
      rw [V.view_all, List.getElem?_map, Option.map_eq_some_iff] at hc
      obtain ⟨c', hc', rfl⟩ := hc
      exact ih i c' v hc' hv
    induction h with
    | x v => exact .imm (.x v)
    | nil sz f => exact .imm (.nil sz f)
    | sl n sz f b off cap g hR hc hg hf => exact .imm hm
    | ip n sz f i j b off g hR hi hg hf => exact .imm hm
    | agg cs vs hl h ih => exact .agg _ vs (by rw [V.view_all]; simpa using hl) (parts fun i c v hc hv => ih i c v hc hv ((h i c v hc hv).mono (fun _ _ => rfl) (fun _ h => .inl h)))
    | tup cs vs hl h ih => exact .tup _ vs (by rw [V.view_all]; simpa using hl) (parts fun i c v hc hv => ih i c v hc hv ((h i c v hc hv).mono (fun _ _ => rfl) (fun _ h => .inl h)))
    | fn g cs vs hl h ih => exact .fn g _ vs (by rw [V.view_all]; simpa using hl) (parts fun i c v hc hv => ih i c v hc hv ((h i c v hc hv).mono (fun _ _ => rfl) (fun _ h => .inl h)))
  induction h with
  | imm h => exact imm h
  | bad v => exact .bad v
  | ref id ver off n k m v hk hm hv ho h =>
    unfold V.view
    rw [hk]
    simp only
    cases hc : Nat.beq k.ver ver && !Nat.beq k.kind 0 && V.pure.all k.cells with
    | false => exact .bad v
    | true =>
      simp only [Bool.and_eq_true, Bool.not_eq_true', Nat.beq_eq] at hc
      obtain ⟨⟨rfl, hn⟩, hp⟩ := hc
      have hn : k.kind ≠ 0 := fun e => by rw [e] at hn; cases hn
      simp only [cond_true]
      have hr := h rfl hn
      by_cases h2 : k.kind = 2
      · obtain ⟨_, _, f3⟩ := freeze_ok hs hk hm h2 hp
        refine .imm ((f3 off n v (.ref id k.ver off n k m v hk hm (Nat.le_refl _) ho h)).mono (fun _ _ => rfl) fun b hb => ?_)
        rcases hb with hb | rfl
        · exact .inl hb
        · exact .inr ⟨id, k, m, hk, hm, h2, hp, rfl⟩
      · rcases hr with ⟨q, rfl, rfl, rfl⟩ | ⟨q, _⟩ | ⟨q, _⟩
        · exact .imm (.nil _ _)
        · exact absurd q h2
        · exact absurd q h2
  | ptr id ver off k m v hk hm hv ho h =>
    unfold V.view
    rw [hk]
    simp only
    cases hc : Nat.beq k.ver ver && !Nat.beq k.kind 0 && V.pure.all k.cells && Nat.blt 0 k.cells.length with
    | false => exact .bad v
    | true =>
      simp only [Bool.and_eq_true, Bool.not_eq_true', Nat.beq_eq, Nat.blt_eq] at hc
      obtain ⟨⟨⟨rfl, hn⟩, hp⟩, hpos⟩ := hc
      have hn : k.kind ≠ 0 := fun e => by rw [e] at hn; cases hn
      simp only [cond_true]
      obtain ⟨h2, rfl⟩ := h rfl hn
      obtain ⟨arr, ty, ha, hsz, hbd, hnR, hcells⟩ := hs.liv id k m hk hm h2
      have hRd : Reads st μ R m.b := .inr ⟨id, k, m, hk, hm, h2, hp, rfl⟩
      have := RepI.ip (w := w) (R := Reads st μ R) 1 k.cells.length (cut 1 k.cells.length fun _ j => (k.cells[j]?).getD .bad) 0 off m.b m.base (fun _ j => (arr[m.base + j]?).getD undef) hRd (by omega)
        (fun i j hi hj => by
          obtain rfl : i = 0 := by omega
          obtain ⟨v, q1, q2, q3⟩ := hcells j _ (List.getElem?_eq_getElem hj)
          have := cell_of (o := m.base + 0 * k.cells.length + j) ha
          rw [this]
          simp only [Nat.zero_mul, Nat.add_zero, q1]
          exact ⟨rfl, q2⟩)
        (fun i j hi hj => by
          obtain rfl : i = 0 := by omega
          obtain ⟨v, q1, q2, q3⟩ := hcells j _ (List.getElem?_eq_getElem hj)
          unfold VS.cut
          rw [if_pos ⟨hi, hj⟩]
          simp only [List.getElem?_eq_getElem hj, q1, Option.getD_some]
          exact (RepI.purely hp (List.getElem?_eq_getElem hj) q3).mono (fun _ _ => rfl) (fun _ h => .inl h))
      simp only [Nat.zero_mul, Nat.add_zero] at this
      exact .imm this
  | agg cs vs hl h ih => exact .agg _ vs (by rw [V.view_all]; simpa using hl) (parts ih)
  | tup cs vs hl h ih => exact .tup _ vs (by rw [V.view_all]; simpa using hl) (parts ih)
  | fn g cs vs hl h ih => exact .fn g _ vs (by rw [V.view_all]; simpa using hl) (parts ih)

/-- A call that only reads, and hands back no memory. -/
theorem Spec.view {P : Program} {f : Nat} {args : List V} {st : Store} {K : V → Store → Prop} (h : Spec P f (args.map (V.view st)) [] fun v _ => v.flat = true ∧ K v st) : Spec P f args st K := by
  refine ⟨h.1, fun μ w R vals hs hl hv => ?_⟩
  have hs0 : SOk [] [] w (Reads st μ R) := by
    refine ⟨rfl, fun b hb => ?_, fun n c hg => (hs.glob n c hg).mono (fun _ _ => rfl) (fun _ h => .inl h), fun i k m hk => by simp at hk, fun i k hk => by simp at hk, fun i j k k' m m' _ hk => by simp at hk⟩
    rcases hb with hb | ⟨i, k, m, hk, hm, h2, _, rfl⟩
    · exact hs.lt b hb
    · obtain ⟨arr, ty, ha, _⟩ := hs.liv i k m hk hm h2
      exact (Array.getElem?_eq_some_iff.1 ha).1
  refine (h.2 [] w (Reads st μ R) vals hs0 (by simpa using hl) (fun k c v hc hv' => ?_)).mono fun e w' ⟨r, val, st', μ', R', h1, h2, h3, h4, h5, h6⟩ => ?_
  · rw [List.getElem?_map, Option.map_eq_some_iff] at hc
    obtain ⟨c', hc', rfl⟩ := hc
    exact view_rep hs (hv k c' v hc' hv')
  · have hkeep : ∀ b, b < w.heap.size → w'.heap[b]? = w.heap[b]? := fun b hb => h2.keep b hb (fun ⟨i, k, m, hk, _⟩ => by simp at hk)
    refine ⟨r, val, st, μ, R, h1, ⟨h2.os, h2.tape, h2.output, h2.size, fun b hb _ => hkeep b hb, fun _ h => h, fun _ h => .inl h, fun _ h => .inr h, StLe.refl _ _⟩, ⟨hs.len, fun b hb => Nat.lt_of_lt_of_le (hs.lt b hb) h2.size, fun n c hg => (hs.glob n c hg).mono (fun b hb => hkeep b (hs.lt b hb)) (fun _ h => h), fun i k m hk hm hkd => ?_, hs.vir, hs.dis⟩, h4.flat h5, h6⟩
    obtain ⟨arr, ty, ha, q1, q2, q3, q4⟩ := hs.liv i k m hk hm hkd
    refine ⟨arr, ty, by rw [hkeep _ (Array.getElem?_eq_some_iff.1 ha).1]; exact ha, q1, q2, q3, fun j c hj => ?_⟩
    obtain ⟨v, p1, p2, p3⟩ := q4 j c hj
    exact ⟨v, p1, p2, p3.mono (StLe.refl _ _) (fun b hb => hkeep b (hs.lt b hb)) (fun _ h => h)⟩

/-- A block of the call's own is handed back to be written to. -/
theorem Fin.own {st0 st1 l : Store} {Q : V → Store → Prop} {ver off n : Nat} (hb : Base st0 st1) (j : Nat) (k : Blk) (hj : l[j]? = some k) (h0 : k.kind ≠ 0) (hver : k.ver = ver) (hp : V.pure.all k.cells = true)
    (h : Q (.ref st0.length 0 off n) (st1 ++ [{ k with ver := 0 }])) : Fin st0 Q (.ref (st0.length + j) ver off n) (st1 ++ l) := by
  intro μ0 w0 R0 μ w R val hs0 hx hs hr
  have hk : (st1 ++ l)[st0.length + j]? = some k := by rw [List.getElem?_append_right (by rw [hb.1]; omega), hb.1]; simpa using hj
  obtain ⟨m, hm, hro⟩ := hr.ref_get hk hver h0
  have ho : one val := one_of hr rfl
  have hlm : st0.length ≤ μ.length := by have := getElem?_lt hm; omega
  have htl : (μ.take st0.length).length = st0.length := by simp; omega
  have e1 : ∀ {i : Nat} {b : Blk}, st1[i]? = some b → (st1 ++ l)[i]? = some b := fun h => getElem?_left l h
  have e2 : ∀ {i : Nat} {q : Mu}, (μ.take st0.length)[i]? = some q → i < st0.length ∧ μ[i]? = some q := fun h => getElem?_take' h
  have lastB : ∀ {i : Nat} {b : Blk}, (st1 ++ [{ k with ver := 0 }])[i]? = some b → st1[i]? = some b ∨ (i = st0.length ∧ b = { k with ver := 0 }) := fun h => by
    rcases getElem?_snoc h with h | ⟨h, h'⟩
    · exact .inl h
    · exact .inr ⟨h.trans hb.1, h'⟩
  have lastM : ∀ {i : Nat} {q : Mu}, (μ.take st0.length ++ [m])[i]? = some q → (i < st0.length ∧ μ[i]? = some q) ∨ (i = st0.length ∧ q = m) := fun h => by
    rcases getElem?_snoc h with h | ⟨h, h'⟩
    · exact .inl (e2 h)
    · exact .inr ⟨h.trans htl, h'⟩
  have pure_rep : ∀ {st : Store} {μ' : List Mu} {c : V} {v : Value} {i : Nat}, k.cells[i]? = some c → RepV (st1 ++ l) μ w R c v → RepV st μ' w R c v := fun hc h => .imm (RepI.purely hp hc h)
  have hle : StLe st0 μ0 (st1 ++ [{ k with ver := 0 }]) (μ.take st0.length ++ [m]) := fun id b q hb' hq => by
    obtain ⟨k', m', r1, r2, r3⟩ := hx.stle id b q hb' hq
    have hlt := getElem?_lt hb'
    refine ⟨k', m', getElem?_left _ ?_, getElem?_left _ (by rw [List.getElem?_take_of_lt hlt]; exact r2), r3⟩
    rw [List.getElem?_append_left (by rw [hb.1]; exact hlt)] at r1
    exact r1
  have keep : ∀ {c : V} {v : Value}, RepV (st1 ++ l) μ w R c v → c.under st0.length = true → RepV (st1 ++ [{ k with ver := 0 }]) (μ.take st0.length ++ [m]) w R c v := fun {c v} h hu => by
    have := h.trunc hu
    rw [take_base hb.1] at this
    exact this.mono (StLe.push _ _ _ _) (fun _ _ => rfl) (fun _ h => h)
  refine ⟨_, _, μ.take st0.length ++ [m], R, h, ⟨hx.os, hx.tape, hx.output, hx.size, hx.keep, hx.sub, hx.new, fun b hbo => ?_, hle⟩, ⟨by simp [htl, hb.1, -List.length_take], hs.lt, hs.glob, fun i b q hbi hqi h2 => ?_, fun i b hbi h1 => ?_, fun i i' b b' q q' hne h1 h2 h3 h4 h5 h6 => ?_⟩, ?_⟩
  · obtain ⟨i, b', q, h1, h2, h3, rfl⟩ := hbo
    rcases lastB h1 with h1 | ⟨rfl, rfl⟩
    · rcases lastM h2 with ⟨_, h2⟩ | ⟨rfl, rfl⟩
      · exact hx.own _ ⟨i, b', q, e1 h1, h2, h3, rfl⟩
      · have := getElem?_lt h1; rw [hb.1] at this; omega
    · rcases lastM h2 with ⟨h, _⟩ | ⟨_, rfl⟩
      · omega
      · exact hx.own _ ⟨st0.length + j, k, q, hk, hm, h3, rfl⟩
  · rcases lastB hbi with hbi | ⟨rfl, rfl⟩
    · have hi : i < st0.length := by have := getElem?_lt hbi; rw [hb.1] at this; exact this
      rcases lastM hqi with ⟨_, hqi⟩ | ⟨rfl, rfl⟩
      · obtain ⟨arr, ty, q1, q2, q3, q4, q5⟩ := hs.liv i b q (e1 hbi) hqi h2
        refine ⟨arr, ty, q1, q2, q3, q4, fun c' c hc => ?_⟩
        obtain ⟨v, p1, p2, p3⟩ := q5 c' c hc
        exact ⟨v, p1, p2, keep p3 (V.under_all (hb.under hs0 i b hbi h2) c' c hc)⟩
      · omega
    · rcases lastM hqi with ⟨h, _⟩ | ⟨_, rfl⟩
      · omega
      · obtain ⟨arr, ty, q1, q2, q3, q4, q5⟩ := hs.liv _ k q hk hm h2
        refine ⟨arr, ty, q1, q2, q3, q4, fun c' c hc => ?_⟩
        obtain ⟨v, p1, p2, p3⟩ := q5 c' c hc
        exact ⟨v, p1, p2, pure_rep hc p3⟩
  · rcases lastB hbi with hbi | ⟨rfl, rfl⟩
    · exact hs.vir i b (e1 hbi) h1
    · exact hs.vir _ k hk h1
  · have toOld : ∀ {i : Nat} {b : Blk} {q : Mu}, (st1 ++ [{ k with ver := 0 }])[i]? = some b → (μ.take st0.length ++ [m])[i]? = some q → b.kind = 2 → ∃ i' k', (st1 ++ l)[i']? = some k' ∧ μ[i']? = some q ∧ k'.kind = 2 ∧ (i' = i ∨ (i = st0.length ∧ i' = st0.length + j)) ∧ (i < st0.length ∨ i = st0.length) ∧ (i < st0.length → i' = i) := fun {i b q} g1 g2 g3 => by
      rcases lastB g1 with g1 | ⟨rfl, rfl⟩
      · have hi : i < st0.length := by have := getElem?_lt g1; rw [hb.1] at this; exact this
        rcases lastM g2 with ⟨_, g2⟩ | ⟨rfl, rfl⟩
        · exact ⟨i, b, e1 g1, g2, g3, .inl rfl, .inl hi, fun _ => rfl⟩
        · omega
      · rcases lastM g2 with ⟨h, _⟩ | ⟨_, rfl⟩
        · omega
        · exact ⟨st0.length + j, k, hk, hm, g3, .inr ⟨rfl, rfl⟩, .inr rfl, fun h => by omega⟩
    obtain ⟨a, ka, a1, a2, a3, a4, a5, a6⟩ := toOld h1 h3 h5
    obtain ⟨c, kc, c1, c2, c3, c4, c5, c6⟩ := toOld h2 h4 h6
    refine hs.dis a c ka kc q q' (fun e => ?_) a1 c1 a2 c2 a3 c3
    rcases a5 with a5 | a5 <;> rcases c5 with c5 | c5
    · have := a6 a5; have := c6 c5; omega
    · have := a6 a5; rcases c4 with c4 | c4 <;> omega
    · have := c6 c5; rcases a4 with a4 | a4 <;> omega
    · omega
  · refine .ref _ 0 off n { k with ver := 0 } m val (by rw [← hb.1]; simp) (by rw [List.getElem?_append_right (by omega), htl]; simp) (Nat.le_refl _) ho (fun _ _ => ?_)
    unfold RefOk at *
    exact hro

/-- A nil slice is handed back to be appended to. -/
theorem Fin.own_nil {st0 st1 l : Store} {Q : V → Store → Prop} (hb : Base st0 st1) (sz : Nat) (h : Q (.ref st0.length 0 0 0) (st1 ++ [⟨1, 0, sz, []⟩])) : Fin st0 Q (.x (.slice none 0 0)) (st1 ++ l) := by
  have := Fin.pure (Q := fun r st => r = .x (.slice none 0 0) ∧ st = st1) (l := l) hb rfl ⟨rfl, rfl⟩
  intro μ0 w0 R0 μ w R val hs0 hx hs hr
  obtain ⟨r', st', μ', R', ⟨rfl, rfl⟩, h2, h3, h4⟩ := this μ0 w0 R0 μ w R val hs0 hx hs hr
  obtain ⟨f1, f2⟩ := push_nil_ok h3 ⟨1, 0, sz, []⟩ (.inr ⟨rfl, rfl⟩)
  refine ⟨_, _, _, R', h, h2.trans f2, f1, ?_⟩
  rw [h4.x_inv]
  exact .ref _ 0 0 0 ⟨1, 0, sz, []⟩ _ _ (by rw [← hb.1]; simp) (show (μ' ++ [⟨0, 0, 0⟩])[st0.length]? = some ⟨0, 0, 0⟩ by rw [← hb.1, ← h3.len]; simp) (Nat.le_refl _) trivial (fun _ _ => .inl ⟨rfl, rfl, rfl, rfl⟩)

end Go.VS
