/- Contracts of calls whose arguments or results are blocks of the call's own, frozen. -/
import Derived.Test.YtjklhbmkajabdaaDoorVs19
set_option linter.all false
namespace Go.VS
open Go Go.RowKit

theorem frz0_ok {st : Store} {μ : List Mu} {w : World} {R : Nat → Prop} (hs : SOk st μ w R) {id : Nat} {k : Blk} (hk : st[id]? = some k) (h2 : k.kind ≠ 0) (hp : V.pure.all k.cells = true) : ∃ R',
    SOk (st.set id { k with kind := 0 }) μ w R' ∧ Ext st μ w R (st.set id { k with kind := 0 }) μ w R' ∧ ∀ c v, RepV st μ w R c v → RepV (st.set id { k with kind := 0 }) μ w R' (c.frz id k) v := by
  have hlt := getElem?_lt hk
  have hm : μ[id]? = some (μ[id]'(by rw [hs.len]; exact hlt)) := List.getElem?_eq_getElem _
  generalize (μ[id]'(by rw [hs.len]; exact hlt)) = m at hm
  obtain ⟨R', hs1, hx1, hf1⟩ : ∃ R', SOk (st.set id { k with kind := 0 }) μ w R' ∧ Ext st μ w R (st.set id { k with kind := 0 }) μ w R' ∧ ∀ off n v, RepV st μ w R (.ref id k.ver off n) v → RepI w R' (frzC k off n) v := by
    by_cases h : k.kind = 2
    · obtain ⟨f1, f2, f3⟩ := freeze_ok hs hk hm h hp
      exact ⟨_, f1, f2, f3⟩
    · have hle : StLe st μ (st.set id { k with kind := 0 }) μ := fun i k' m' hk' hm' => by
        by_cases e : i = id
        · subst e
          rw [hk] at hk'; cases hk'
          exact ⟨{ k with kind := 0 }, m', by rw [List.getElem?_set_self hlt], hm', Nat.le_refl _, fun _ h => absurd rfl h⟩
        · exact ⟨k', m', by rw [List.getElem?_set_ne (Ne.symm e)]; exact hk', hm', Nat.le_refl _, fun _ _ => ⟨rfl, rfl, rfl, rfl⟩⟩
      refine ⟨R, ⟨by simp [hs.len], hs.lt, hs.glob, fun i k' m' hk' hm' hkind => ?_, fun i k' hk' hkind => ?_, fun i j k1 k2 m1 m2 hij g1 g2 g3 g4 g5 g6 => ?_⟩, ⟨rfl, rfl, rfl, Nat.le_refl _, fun _ _ _ => rfl, fun _ h => h, fun _ h => .inl h, fun b hb => ?_, hle⟩, fun off n v hv => ?_⟩
      · rcases getElem?_set' hk' with ⟨rfl, rfl, _⟩ | ⟨hne, hk''⟩
        · cases hkind
        · obtain ⟨arr', ty', ha', hsz', hbd', hnR', hc'⟩ := hs.liv i k' m' hk'' hm' hkind
          exact ⟨arr', ty', ha', hsz', hbd', hnR', fun j c hj => by
            obtain ⟨v, q1, q2, q3⟩ := hc' j c hj
            exact ⟨v, q1, q2, q3.mono hle (fun _ _ => rfl) (fun _ h => h)⟩⟩
      · rcases getElem?_set' hk' with ⟨rfl, rfl, _⟩ | ⟨hne, hk''⟩
        · cases hkind
        · exact hs.vir i k' hk'' hkind
      · rcases getElem?_set' g1 with ⟨rfl, rfl, _⟩ | ⟨_, g1⟩
        · cases g5
        · rcases getElem?_set' g2 with ⟨rfl, rfl, _⟩ | ⟨_, g2⟩
          · cases g6
          · exact hs.dis i j k1 k2 m1 m2 hij g1 g2 g3 g4 g5 g6
      · obtain ⟨i, k', m', hk', hm', hkind, e⟩ := hb
        rcases getElem?_set' hk' with ⟨rfl, rfl, _⟩ | ⟨hne, hk''⟩
        · cases hkind
        · exact .inr ⟨i, k', m', hk'', hm', hkind, e⟩
      · obtain ⟨mu, hmu, hr⟩ := hv.ref_get hk rfl h2
        rcases hr with ⟨q, rfl, rfl, rfl⟩ | ⟨q, _⟩ | ⟨q, _⟩
        · exact .nil _ _
        · exact absurd q h
        · exact absurd q h
  exact ⟨R', hs1, hx1, fun c v h => RepV.frz hx1.stle hx1.sub (fun off n v hv => .imm (hf1 off n v hv)) h⟩

/-- A block of the call's own is frozen ahead of a call. -/
theorem Spec.frz {P : Program} {f : Nat} {args : List V} {st : Store} {K : V → Store → Prop} (id : Nat) (k : Blk) (hk : st[id]? = some k) (h0 : k.kind ≠ 0) (hp : V.pure.all k.cells = true)
    (h : Spec P f (args.map (V.frz id k)) (st.set id { k with kind := 0 }) K) : Spec P f args st K := by
  refine ⟨h.1, fun μ w R vals hs hl hv => ?_⟩
  obtain ⟨R', f1, f2, f3⟩ := frz0_ok hs hk h0 hp
  refine (h.2 μ w R' vals f1 (by simpa using hl) (fun i c v hc hv' => ?_)).mono fun e w' ⟨r, val, st', μ', R'', h1, h2, h3, h4, h5⟩ => ⟨r, val, st', μ', R'', h1, f2.trans h2, h3, h4, h5⟩
  rw [List.getElem?_map, Option.map_eq_some_iff] at hc
  obtain ⟨c', hc', rfl⟩ := hc
  exact f3 c' v (hv i c' v hc' hv')

/-- A fresh block that is handed back may be taken for an immutable slice. -/
theorem Spec.imm {P : Program} {f : Nat} {args : List V} {st : Store} {K : V → Store → Prop}
    (h : Spec P f args st fun r st' => ∃ (k : Blk) (n : Nat), k.kind ≠ 0 ∧ V.pure.all k.cells = true ∧ r = .ref st.length k.ver 0 n ∧ st' = st ++ [k] ∧ K (frzC k 0 n) st) : Spec P f args st K := by
  refine ⟨h.1, fun μ w R vals hs hl hv => (h.2 μ w R vals hs hl hv).mono fun e w' ⟨r, val, st', μ', R', h1, h2, h3, h4, k, n, h5, h6, e1, e2, h7⟩ => ?_⟩
  subst e1 e2
  have hk : (st ++ [k])[st.length]? = some k := by simp
  obtain ⟨R2, f1, f2, f3⟩ := frz0_ok h3 hk h5 h6
  have hv2 := f3 _ _ h4
  have e : (V.ref st.length k.ver 0 n).frz st.length k = frzC k 0 n := by simp [V.frz]
  rw [e] at hv2
  have ht : ((st ++ [k]).set st.length { k with kind := 0 }).take st.length = st := by simp
  have t1 := f1.trunc (m := st.length) (fun i b hb hi hkd => by
    rw [List.getElem?_set_ne (by omega), List.getElem?_append_left hi] at hb
    exact hs.under (Nat.le_refl _) i b hb hkd)
  have t2 := (h2.trans f2).trunc (m := st.length) (Nat.le_refl _)
  rw [ht] at t1 t2
  exact ⟨_, val, st, _, R2, h1, t2, t1, .imm (hv2.toI rfl), h7⟩

end Go.VS
