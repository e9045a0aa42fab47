/- The store: freezing a block, letting the last ones go. -/
import Derived.Test.YtjklhbmkajabdaaDoorVs10
set_option linter.all false
namespace Go.VS
open Go Go.RowKit

theorem RepI.purely {w : World} {R : Nat → Prop} {st : Store} {μ : List Mu} {cs : List V} (hp : V.pure.all cs = true) {k : Nat} {c : V} {v : Value} (hc : cs[k]? = some c) (h : RepV st μ w R c v) : RepI w R c v :=
  h.toI (V.pure_all hp k c hc)

section
variable {st : Store} {μ : List Mu} {w : World} {R : Nat → Prop}

theorem freeze_ok (hs : SOk st μ w R) {id : Nat} {k : Blk} {m : Mu} (hk : st[id]? = some k) (hm : μ[id]? = some m) (h2 : k.kind = 2) (hp : V.pure.all k.cells = true) :
    SOk (st.set id { k with kind := 0 }) μ w (fun b => R b ∨ b = m.b) ∧ Ext st μ w R (st.set id { k with kind := 0 }) μ w (fun b => R b ∨ b = m.b) ∧
    (∀ off n v, RepV st μ w R (.ref id k.ver off n) v → RepI w (fun b => R b ∨ b = m.b) (.sl n k.sz (cut n k.sz fun i j => (k.cells[(off + i) * k.sz + j]?).getD .bad)) v) := by
  obtain ⟨arr, ty, ha, hsz, hbd, hnR, hcells⟩ := hs.liv id k m hk hm h2
  have hlt := getElem?_lt hk
  have hle : StLe st μ (st.set id { k with kind := 0 }) μ := fun i k' m' hk' hm' => by
    by_cases e : i = id
    · subst e
      rw [hk] at hk'; cases hk'
      exact ⟨{ k with kind := 0 }, m', by rw [List.getElem?_set_self hlt], hm', Nat.le_refl _, fun _ h => absurd rfl h⟩
    · exact ⟨k', m', by rw [List.getElem?_set_ne (Ne.symm e)]; exact hk', hm', Nat.le_refl _, fun _ _ => ⟨rfl, rfl, rfl, rfl⟩⟩
  have hRR : ∀ b, R b → (R b ∨ b = m.b) := fun b h => .inl h
  have up : ∀ {c : V} {v : Value}, RepV st μ w R c v → RepV (st.set id { k with kind := 0 }) μ w (fun b => R b ∨ b = m.b) c v := fun h => h.mono hle (fun _ _ => rfl) hRR
  refine ⟨⟨by simp [hs.len], fun b hb => ?_, fun n c hg => (hs.glob n c hg).mono (fun _ _ => rfl) hRR, fun i k' m' hk' hm' hkind => ?_, fun i k' hk' hkind => ?_, fun i j k1 k2 m1 m2 hij h1 h2' h3 h4 h5 h6 => ?_⟩,
    ⟨rfl, rfl, rfl, Nat.le_refl _, fun _ _ _ => rfl, hRR, fun b hb => ?_, fun b hb => ?_, hle⟩, fun off n v hv => ?_⟩
  · rcases hb with hb | rfl
    · exact hs.lt b hb
    · exact (Array.getElem?_eq_some_iff.1 ha).1
  · rcases getElem?_set' hk' with ⟨rfl, rfl, _⟩ | ⟨hne, hk''⟩
    · cases hkind
    · obtain ⟨arr', ty', ha', hsz', hbd', hnR', hc'⟩ := hs.liv i k' m' hk'' hm' hkind
      refine ⟨arr', ty', ha', hsz', hbd', fun h => ?_, fun j c hj => ?_⟩
      · rcases h with h | h
        · exact hnR' h
        · exact hs.dis i id k' k m' m hne hk'' hk hm' hm hkind h2 h
      · obtain ⟨v, q1, q2, q3⟩ := hc' j c hj
        exact ⟨v, q1, q2, up q3⟩
  · rcases getElem?_set' hk' with ⟨rfl, rfl, _⟩ | ⟨hne, hk''⟩
    · cases hkind
    · exact hs.vir i k' hk'' hkind
  · rcases getElem?_set' h1 with ⟨rfl, rfl, _⟩ | ⟨_, h1⟩
    · cases h5
    · rcases getElem?_set' h2' with ⟨rfl, rfl, _⟩ | ⟨_, h2'⟩
      · cases h6
      · exact hs.dis i j k1 k2 m1 m2 hij h1 h2' h3 h4 h5 h6
  · rcases hb with hb | rfl
    · exact .inl hb
    · exact .inr (.inr ⟨id, k, m, hk, hm, h2, rfl⟩)
  · obtain ⟨i, k', m', hk', hm', hkind, e⟩ := hb
    rcases getElem?_set' hk' with ⟨rfl, rfl, _⟩ | ⟨hne, hk''⟩
    · cases hkind
    · exact .inr ⟨i, k', m', hk'', hm', hkind, e⟩
  · obtain ⟨mu, hmu, hr⟩ := hv.ref_get hk rfl (by rw [h2]; decide)
    rw [hm] at hmu; cases hmu
    rcases hr with ⟨q, _⟩ | ⟨_, hlen, cap, rfl, hnc, _⟩ | ⟨_, rfl, _, ad, rfl⟩
    · rw [h2] at q; cases q
    · have get : ∀ i j, i < n → j < k.sz → ∃ c v, k.cells[(off + i) * k.sz + j]? = some c ∧ arr[m.base + ((off + i) * k.sz + j)]? = some v ∧ one v ∧ RepV st μ w R c v := fun i j hi hj => by
        have : (off + i) * k.sz + j < k.cells.length := by
          have h1 : (off + i + 1) * k.sz ≤ (off + n) * k.sz := Nat.mul_le_mul_right _ (by omega)
          rw [Nat.add_mul (off + i) 1] at h1
          omega
        obtain ⟨v, q1, q2, q3⟩ := hcells _ _ (List.getElem?_eq_getElem this)
        exact ⟨_, v, List.getElem?_eq_getElem this, q1, q2, q3⟩
      have cell : ∀ i j, w.cell? ⟨m.b, m.base + off * k.sz + i * k.sz + j, none⟩ = arr[m.base + ((off + i) * k.sz + j)]? := fun i j => by
        have := cell_of (o := m.base + off * k.sz + i * k.sz + j) ha
        rw [this]; congr 1; rw [Nat.add_mul]; omega
      refine RepI.cut (.sl n k.sz _ m.b (m.base + off * k.sz) cap (fun i j => (arr[m.base + ((off + i) * k.sz + j)]?).getD undef) (fun _ => .inr rfl) hnc (fun i j hi hj => ?_) (fun i j hi hj => ?_))
      · obtain ⟨c, v, q1, q2, q3, q4⟩ := get i j hi hj
        rw [cell, q2]; exact ⟨rfl, q3⟩
      · obtain ⟨c, v, q1, q2, q3, q4⟩ := get i j hi hj
        rw [q1, q2]
        exact (RepI.purely hp q1 q4).mono (fun _ _ => rfl) hRR
    · exact RepI.cut (.sl 0 _ _ ad.1 ad.2 0 (fun _ _ => undef) (fun h => absurd h (by omega)) (Nat.le_refl _) (fun i j hi => absurd hi (by omega)) (fun i j hi => absurd hi (by omega)))

end


/-- No block from m on is named. -/
def V.under (m : Nat) : V → Bool
  | .ref id .. => Nat.blt id m
  | .ptr id .. => Nat.blt id m
  | .agg cs => all cs
  | .tup cs => all cs
  | .fn _ cs => all cs
  | _ => true
where all : List V → Bool
  | [] => true
  | c :: r => c.under m && all r

theorem V.under_all {m : Nat} {cs : List V} (h : V.under.all m cs = true) : ∀ (k : Nat) c, cs[k]? = some c → c.under m = true := by
  induction cs with
  | nil => intro k c hc; simp at hc
  | cons a r ih =>
    simp only [V.under.all, Bool.and_eq_true] at h
    intro k c hc
    cases k with
    | zero => simp at hc; subst hc; exact h.1
    | succ k => exact ih h.2 k c (by simpa using hc)

theorem V.all_under {m : Nat} {cs : List V} (h : ∀ (k : Nat) c, cs[k]? = some c → c.under m = true) : V.under.all m cs = true := by
  induction cs with
  | nil => rfl
  | cons a r ih =>
    simp only [V.under.all, Bool.and_eq_true]
    exact ⟨h 0 a rfl, ih fun k c hc => h (k + 1) c (by simpa using hc)⟩

theorem RepI.under {w : World} {R : Nat → Prop} {m : Nat} {c : V} {v : Value} (h : RepI w R c v) : c.under m = true := by
  have parts : ∀ {cs : List V} {vs : List Value}, cs.length = vs.length → (∀ (k : Nat) c v, cs[k]? = some c → vs[k]? = some v → c.under m = true) → V.under.all m cs = true := fun hl ih =>
    V.all_under fun k c hc => ih k c _ hc (List.getElem?_eq_getElem (by have := getElem?_lt hc; omega))
  induction h with
  | agg cs vs hl h ih => exact parts hl ih
  | tup cs vs hl h ih => exact parts hl ih
  | fn g cs vs hl h ih => exact parts hl ih
  | _ => rfl

theorem RepV.under {st : Store} {μ : List Mu} {w : World} {R : Nat → Prop} {m : Nat} (hm : st.length ≤ m) {c : V} {v : Value} (h : RepV st μ w R c v) : c.under m = true := by
  have parts : ∀ {cs : List V} {vs : List Value}, cs.length = vs.length → (∀ (k : Nat) c v, cs[k]? = some c → vs[k]? = some v → c.under m = true) → V.under.all m cs = true := fun hl ih =>
    V.all_under fun k c hc => ih k c _ hc (List.getElem?_eq_getElem (by have := getElem?_lt hc; omega))
  induction h with
  | imm h => exact h.under
  | bad => rfl
  | ref id ver off n k mu v hk => have := getElem?_lt hk; simp [V.under, Nat.blt_eq]; omega
  | ptr id ver off k mu v hk => have := getElem?_lt hk; simp [V.under, Nat.blt_eq]; omega
  | agg cs vs hl h ih => exact parts hl ih
  | tup cs vs hl h ih => exact parts hl ih
  | fn g cs vs hl h ih => exact parts hl ih

theorem RepV.trunc {st : Store} {μ : List Mu} {w : World} {R : Nat → Prop} {m : Nat} {c : V} {v : Value} (h : RepV st μ w R c v) (hb : c.under m = true) : RepV (st.take m) (μ.take m) w R c v := by
  induction h with
  | imm h => exact .imm h
  | bad v => exact .bad v
  | ref id ver off n k mu v hk hmu hv ho h =>
    simp only [V.under, Nat.blt_eq] at hb
    exact .ref id ver off n k mu v (by rw [List.getElem?_take_of_lt hb]; exact hk) (by rw [List.getElem?_take_of_lt hb]; exact hmu) hv ho h
  | ptr id ver off k mu v hk hmu hv ho h =>
    simp only [V.under, Nat.blt_eq] at hb
    exact .ptr id ver off k mu v (by rw [List.getElem?_take_of_lt hb]; exact hk) (by rw [List.getElem?_take_of_lt hb]; exact hmu) hv ho h
  | agg cs vs hl h ih => exact .agg cs vs hl fun k c v hc hv => ih k c v hc hv (V.under_all (by simpa [V.under] using hb) k c hc)
  | tup cs vs hl h ih => exact .tup cs vs hl fun k c v hc hv => ih k c v hc hv (V.under_all (by simpa [V.under] using hb) k c hc)
  | fn g cs vs hl h ih => exact .fn g cs vs hl fun k c v hc hv => ih k c v hc hv (V.under_all (by simpa [V.under] using hb) k c hc)

theorem getElem?_take' {α : Type} {l : List α} {m i : Nat} {x : α} (h : (l.take m)[i]? = some x) : i < m ∧ l[i]? = some x := by
  rcases Nat.lt_or_ge i m with h1 | h1
  · rw [List.getElem?_take_of_lt h1] at h; exact ⟨h1, h⟩
  · rw [List.getElem?_eq_none (by simp; omega)] at h; cases h

theorem SOk.trunc {st : Store} {μ : List Mu} {w : World} {R : Nat → Prop} (hs : SOk st μ w R) {m : Nat} (hb : ∀ (i : Nat) k, st[i]? = some k → i < m → k.kind = 2 → V.under.all m k.cells = true) : SOk (st.take m) (μ.take m) w R where
  len := by simp [hs.len]
  lt := hs.lt
  glob := hs.glob
  liv i k mu hk hmu h2 := by
    obtain ⟨hi, hk⟩ := getElem?_take' hk
    obtain ⟨_, hmu⟩ := getElem?_take' hmu
    obtain ⟨arr, ty, q1, q2, q3, q4, q5⟩ := hs.liv i k mu hk hmu h2
    refine ⟨arr, ty, q1, q2, q3, q4, fun j c hj => ?_⟩
    obtain ⟨v, r1, r2, r3⟩ := q5 j c hj
    exact ⟨v, r1, r2, r3.trunc (V.under_all (hb i k hk hi h2) j c hj)⟩
  vir i k hk h1 := hs.vir i k (getElem?_take' hk).2 h1
  dis i j k k' mu mu' hij h1 h2 h3 h4 h5 h6 := hs.dis i j k k' mu mu' hij (getElem?_take' h1).2 (getElem?_take' h2).2 (getElem?_take' h3).2 (getElem?_take' h4).2 h5 h6

theorem Ext.trunc {st0 st : Store} {μ0 μ : List Mu} {w0 w : World} {R0 R : Nat → Prop} (h : Ext st0 μ0 w0 R0 st μ w R) {m : Nat} (hm : st0.length ≤ m) : Ext st0 μ0 w0 R0 (st.take m) (μ.take m) w R where
  os := h.os
  tape := h.tape
  output := h.output
  size := h.size
  keep := h.keep
  sub := h.sub
  new := h.new
  own b hb := by
    obtain ⟨i, k, mu, h1, h2, h3⟩ := hb
    exact h.own b ⟨i, k, mu, (getElem?_take' h1).2, (getElem?_take' h2).2, h3⟩
  stle id k mu hk hmu := by
    obtain ⟨k', m', q1, q2, q3⟩ := h.stle id k mu hk hmu
    have := getElem?_lt hk
    exact ⟨k', m', by rw [List.getElem?_take_of_lt (by omega)]; exact q1, by rw [List.getElem?_take_of_lt (by omega)]; exact q2, q3⟩

/-- The store's own blocks name none behind its end. -/
theorem SOk.under {st : Store} {μ : List Mu} {w : World} {R : Nat → Prop} (hs : SOk st μ w R) {m : Nat} (hm : st.length ≤ m) : ∀ (i : Nat) k, st[i]? = some k → k.kind = 2 → V.under.all m k.cells = true := fun i k hk h2 => by
  have hlt := getElem?_lt hk
  have hlt' : i < μ.length := by rw [hs.len]; exact hlt
  have hmu : μ[i]? = some μ[i] := List.getElem?_eq_getElem hlt'
  obtain ⟨arr, ty, q1, q2, q3, q4, q5⟩ := hs.liv i k _ hk hmu h2
  exact V.all_under fun j c hj => by
    obtain ⟨v, r1, r2, r3⟩ := q5 j c hj
    exact r3.under hm

section ops
variable {P : Program} {st : Store} {μ : List Mu} {w : World} {R : Nat → Prop} {ρ : Env} {a : Act} {K : V → Store → Prop}

theorem done_bz (hs : SOk st μ w R) {r : Result Next} {cs : List V} {n sz : Nat} (h : Done st μ w R r fun v st' => v = .ref st.length 0 0 n ∧ st' = st ++ [⟨2, 0, sz, cs⟩]) (hp : V.pure.all cs = true)
    (hK : K (.sl n sz (cut n sz fun i j => (cs[i * sz + j]?).getD .bad)) st) : Done st μ w R r K := by
  obtain ⟨val, w', c, st', μ', R', hr, hx, hs', hc, rfl, rfl⟩ := h
  have hl : μ'.length = st.length + 1 := by rw [hs'.len]; simp
  have hm : μ'[st.length]? = some μ'[st.length] := List.getElem?_eq_getElem (by omega)
  have hk : (st ++ [(⟨2, 0, sz, cs⟩ : Blk)])[st.length]? = some ⟨2, 0, sz, cs⟩ := by simp
  obtain ⟨f1, f2, f3⟩ := freeze_ok hs' hk hm rfl hp
  have ht := f3 0 n val hc
  have e : ((st ++ [(⟨2, 0, sz, cs⟩ : Blk)]).set st.length { (⟨2, 0, sz, cs⟩ : Blk) with kind := 0 }).take st.length = st := by simp
  have t1 := f1.trunc (m := st.length) (fun i k hk hi h2 => by
    rcases getElem?_set' hk with ⟨rfl, _, _⟩ | ⟨_, hk⟩
    · omega
    · rw [List.getElem?_append_left hi] at hk
      exact hs.under (Nat.le_refl _) i k hk h2)
  have t2 := (hx.trans f2).trunc (m := st.length) (Nat.le_refl _)
  rw [e] at t1 t2
  refine ⟨val, w', _, st, _, _, hr, t2, t1, .imm ht, ?_⟩
  simpa using hK

/-- A slice literal that is never written to. -/
def O.im : O → O
  | .bs t n ps => .bz t n ps
  | o => o

theorem of_bs {op : Op} {t n : Nat} {ps : List (Nat × A)} (h : O.of op = .bs t n ps) : ∃ qs : Array (Nat × Operand), op = .buildSlice t n qs ∧ ps = qs.toList.map fun p => (p.1, .of p.2) := by
  unfold O.of at h
  split at h <;> first
    | (cases h; exact ⟨_, rfl, rfl⟩)
    | (exfalso; cases h; done)
    | (exfalso; split at h <;> cases h; done)

theorem run_im (hs : SOk st μ w R) (he : REnv st μ w R ρ a.tmps) (o : Oper) (im : Bool) (h : opW P ρ st (bif im then (O.of o.op).im else O.of o.op) K) :
    Done st μ w R ((execOp a.eval o).run P w) K ∨ CallRun P st μ w R ((execOp a.eval o).run P w) K := by
  cases im with
  | false => exact run_op hs he o h
  | true =>
    simp only [cond_true] at h
    by_cases hb : ∃ t n ps, O.of o.op = .bs t n ps
    · obtain ⟨t, n, ps, e⟩ := hb
      rw [e] at h
      simp only [O.im, opW] at h
      split at h
      · rename_i el hel
        split at h
        · rename_i sz by' ag z hi
          obtain ⟨hz, hbd, h⟩ := h
          split at h
          · rename_i cs hcs
            obtain ⟨h1, h2, h3⟩ := h
            obtain ⟨qs, ho, rfl⟩ := of_bs e
            refine .inl (done_bz hs (done_bs (K := fun v st' => v = .ref st.length 0 0 n ∧ st' = st ++ [⟨2, 0, sz, cs⟩]) hs he ho ?_) h2 h3)
            simp only [opW, hel, hi, hcs]
            exact ⟨hz, hbd, h1, trivial, trivial⟩
          · exact h.elim
        · exact h.elim
      · exact h.elim
    · have : (O.of o.op).im = O.of o.op := by
        cases hq : O.of o.op <;> first | rfl | exact absurd ⟨_, _, _, hq⟩ hb
      rw [this] at h
      exact run_op hs he o h

end ops

end Go.VS
