/- How a store goes on when a block is laid, written, or grown: plain lemmas for the proofs of this claim. -/
import Derived.Test.YtjklhbmkajabdaaDoorVs1
set_option linter.all false
namespace Go.VS
open Go Go.RowKit

theorem getElem?_snoc {α : Type} {l : List α} {a x : α} {i : Nat} (h : (l ++ [a])[i]? = some x) : l[i]? = some x ∨ (i = l.length ∧ x = a) := by
  rw [List.getElem?_append] at h
  split at h
  · exact .inl h
  · rename_i hi
    have : i - l.length = 0 := by
      rcases Nat.eq_zero_or_pos (i - l.length) with h0 | h0
      · exact h0
      · rw [List.getElem?_eq_none (by simp; omega)] at h; cases h
    rw [this] at h
    exact .inr ⟨by omega, by simpa using h.symm⟩

theorem getElem?_lt {α : Type} {l : List α} {x : α} {i : Nat} (h : l[i]? = some x) : i < l.length := by
  rcases Nat.lt_or_ge i l.length with h' | h'
  · exact h'
  · rw [List.getElem?_eq_none h'] at h; cases h

theorem getElem?_left {α : Type} {l : List α} {x : α} {i : Nat} (r : List α) (h : l[i]? = some x) : (l ++ r)[i]? = some x := by
  rw [List.getElem?_append_left (getElem?_lt h)]; exact h

theorem StLe.push (st : Store) (μ : List Mu) (k : Blk) (m : Mu) : StLe st μ (st ++ [k]) (μ ++ [m]) := fun id k' m' hk hm =>
  ⟨k', m', getElem?_left _ hk, getElem?_left _ hm, Nat.le_refl _, fun _ _ => ⟨rfl, rfl, rfl, rfl⟩⟩

theorem heap_push (w : World) (o : Obj) {b : Nat} (h : b < w.heap.size) : (w.alloc o).heap[b]? = w.heap[b]? := Below.heap_alloc w o b h

theorem heap_new (w : World) (o : Obj) : (w.alloc o).heap[w.heap.size]? = some o := by
  show (w.heap.push o)[w.heap.size]? = _
  simp

theorem size_alloc (w : World) (o : Obj) : (w.alloc o).heap.size = w.heap.size + 1 := by
  show (w.heap.push o).size = _
  simp

theorem SOk.blt {st : Store} {μ : List Mu} {w : World} {R : Nat → Prop} (h : SOk st μ w R) {b : Nat} (hb : Owns st μ b) : b < w.heap.size := by
  obtain ⟨i, k, m, hk, hm, h2, rfl⟩ := hb
  obtain ⟨arr, ty, hh, _⟩ := h.liv i k m hk hm h2
  rcases Nat.lt_or_ge m.b w.heap.size with h' | h'
  · exact h'
  · rw [Array.getElem?_eq_none h'] at hh; cases hh

/-- A new block of the call's own. -/
theorem push_ok {st : Store} {μ : List Mu} {w : World} {R : Nat → Prop} (h : SOk st μ w R) (ver sz base : Nat) (cells : List V) (arr : Array Value) (ty : TypeId) (hl : base + cells.length ≤ arr.size)
    (hc : ∀ (j : Nat) c, cells[j]? = some c → ∃ v, arr[base + j]? = some v ∧ one v ∧ RepV st μ w R c v) :
    SOk (st ++ [⟨2, ver, sz, cells⟩]) (μ ++ [⟨w.heap.size, base, arr.size⟩]) (w.alloc (.cells arr ty)) R ∧
    Ext st μ w R (st ++ [⟨2, ver, sz, cells⟩]) (μ ++ [⟨w.heap.size, base, arr.size⟩]) (w.alloc (.cells arr ty)) R := by
  have hle := StLe.push st μ ⟨2, ver, sz, cells⟩ ⟨w.heap.size, base, arr.size⟩
  have hw : ∀ b, R b → (w.alloc (.cells arr ty)).heap[b]? = w.heap[b]? := fun b hb => heap_push w _ (h.lt b hb)
  have old : ∀ {i : Nat} {k m}, (st ++ [⟨2, ver, sz, cells⟩])[i]? = some k → (μ ++ [⟨w.heap.size, base, arr.size⟩])[i]? = some m → k.kind = 2 →
      (st[i]? = some k ∧ μ[i]? = some m) ∨ (i = st.length ∧ k = ⟨2, ver, sz, cells⟩ ∧ m = ⟨w.heap.size, base, arr.size⟩) := by
    intro i k m hk hm h2
    rcases getElem?_snoc hk with h1 | ⟨h1, rfl⟩
    · rcases getElem?_snoc hm with g1 | ⟨g1, rfl⟩
      · exact .inl ⟨h1, g1⟩
      · have := getElem?_lt h1; have := h.len; omega
    · rcases getElem?_snoc hm with g1 | ⟨g1, rfl⟩
      · have := getElem?_lt g1; have := h.len; omega
      · exact .inr ⟨h1, rfl, rfl⟩
  refine ⟨⟨by simp [h.len], fun b hb => by rw [size_alloc]; have := h.lt b hb; omega, fun n c hg => (h.glob n c hg).mono hw (fun _ h => h), ?_, ?_, ?_⟩, ⟨rfl, rfl, rfl, by rw [size_alloc]; omega, fun b hb hn => heap_push w _ hb, fun b hb => hb, fun b hb => .inl hb, ?_, hle⟩⟩
  · intro i k m hk hm h2
    rcases old hk hm h2 with ⟨h1, g1⟩ | ⟨_, rfl, rfl⟩
    · obtain ⟨arr', ty', e1, e2, e3, e4, e5⟩ := h.liv i k m h1 g1 h2
      have hb := h.blt ⟨i, k, m, h1, g1, h2, rfl⟩
      exact ⟨arr', ty', by rw [heap_push w _ hb]; exact e1, e2, e3, e4, fun j c hj => by
        obtain ⟨v, a1, a2, a3⟩ := e5 j c hj
        exact ⟨v, a1, a2, a3.mono hle hw (fun _ h => h)⟩⟩
    · exact ⟨arr, ty, heap_new w _, rfl, hl, fun hR => by have := h.lt _ hR; simp at this, fun j c hj => by
        obtain ⟨v, a1, a2, a3⟩ := hc j c hj
        exact ⟨v, a1, a2, a3.mono hle hw (fun _ h => h)⟩⟩
  · intro i k hk h1
    rcases getElem?_snoc hk with h2 | ⟨_, rfl⟩
    · exact h.vir i k h2 h1
    · cases h1
  · intro i j k k' m m' hij hk hk' hm hm' h2 h2'
    rcases old hk hm h2 with ⟨h1, g1⟩ | ⟨i1, rfl, rfl⟩
    · rcases old hk' hm' h2' with ⟨h1', g1'⟩ | ⟨i2, rfl, rfl⟩
      · exact h.dis i j k k' m m' hij h1 h1' g1 g1' h2 h2'
      · have := h.blt ⟨i, k, m, h1, g1, h2, rfl⟩
        exact Nat.ne_of_lt this
    · rcases old hk' hm' h2' with ⟨h1', g1'⟩ | ⟨i2, rfl, rfl⟩
      · have := h.blt ⟨j, k', m', h1', g1', h2', rfl⟩
        exact Nat.ne_of_gt this
      · omega
  · rintro b ⟨i, k, m, hk, hm, h2, rfl⟩
    rcases old hk hm h2 with ⟨h1, g1⟩ | ⟨_, rfl, rfl⟩
    · exact .inr ⟨i, k, m, h1, g1, h2, rfl⟩
    · exact .inl (Nat.le_refl _)

/-- A block that is empty and nowhere. -/
theorem push_nil_ok {st : Store} {μ : List Mu} {w : World} {R : Nat → Prop} (h : SOk st μ w R) (k0 : Blk) (hk0 : k0.kind = 0 ∨ (k0.kind = 1 ∧ k0.cells = [])) :
    SOk (st ++ [k0]) (μ ++ [⟨0, 0, 0⟩]) w R ∧ Ext st μ w R (st ++ [k0]) (μ ++ [⟨0, 0, 0⟩]) w R := by
  have hle := StLe.push st μ k0 ⟨0, 0, 0⟩
  have old : ∀ {i : Nat} {k m}, (st ++ [k0])[i]? = some k → (μ ++ [⟨0, 0, 0⟩])[i]? = some m → k.kind = 2 → st[i]? = some k ∧ μ[i]? = some m := by
    intro i k m hk hm h2
    rcases getElem?_snoc hk with h1 | ⟨h1, rfl⟩
    · rcases getElem?_snoc hm with g1 | ⟨g1, rfl⟩
      · exact ⟨h1, g1⟩
      · have := getElem?_lt h1; have := h.len; omega
    · rcases hk0 with h0 | h0
      · omega
      · omega
  refine ⟨⟨by simp [h.len], h.lt, h.glob, ?_, ?_, ?_⟩, ⟨rfl, rfl, rfl, Nat.le_refl _, fun b hb hn => rfl, fun b hb => hb, fun b hb => .inl hb, ?_, hle⟩⟩
  · intro i k m hk hm h2
    obtain ⟨h1, g1⟩ := old hk hm h2
    obtain ⟨arr', ty', e1, e2, e3, e4, e5⟩ := h.liv i k m h1 g1 h2
    exact ⟨arr', ty', e1, e2, e3, e4, fun j c hj => by
      obtain ⟨v, a1, a2, a3⟩ := e5 j c hj
      exact ⟨v, a1, a2, a3.mono hle (fun _ _ => rfl) (fun _ h => h)⟩⟩
  · intro i k hk h1
    rcases getElem?_snoc hk with h2 | ⟨_, rfl⟩
    · exact h.vir i k h2 h1
    · rcases hk0 with h0 | h0
      · omega
      · exact h0.2
  · intro i j k k' m m' hij hk hk' hm hm' h2 h2'
    obtain ⟨h1, g1⟩ := old hk hm h2
    obtain ⟨h1', g1'⟩ := old hk' hm' h2'
    exact h.dis i j k k' m m' hij h1 h1' g1 g1' h2 h2'
  · rintro b ⟨i, k, m, hk, hm, h2, rfl⟩
    obtain ⟨h1, g1⟩ := old hk hm h2
    exact .inr ⟨i, k, m, h1, g1, h2, rfl⟩

theorem getElem?_set' {α : Type} {l : List α} {i j : Nat} {a x : α} (h : (l.set i a)[j]? = some x) : (j = i ∧ x = a ∧ i < l.length) ∨ (j ≠ i ∧ l[j]? = some x) := by
  rw [List.getElem?_set] at h
  split at h
  · rename_i e
    split at h
    · exact .inl ⟨e.symm, by simpa using h.symm, by assumption⟩
    · cases h
  · rename_i e
    exact .inr ⟨fun e' => e e'.symm, h⟩

theorem StLe.set {st : Store} {μ : List Mu} {id : Nat} {k k' : Blk} {m m' : Mu} (hk : st[id]? = some k) (hm : μ[id]? = some m) (hv : k.ver ≤ k'.ver)
    (h : k'.ver = k.ver → k'.kind ≠ 0 → k'.kind = k.kind ∧ k'.sz = k.sz ∧ k'.cells.length = k.cells.length ∧ m' = m) : StLe st μ (st.set id k') (μ.set id m') := by
  intro i a b ha hb
  by_cases e : i = id
  · subst e
    rw [hk] at ha; rw [hm] at hb
    cases ha; cases hb
    exact ⟨k', m', by rw [List.getElem?_set_self (getElem?_lt hk)], by rw [List.getElem?_set_self (getElem?_lt hm)], hv, h⟩
  · refine ⟨a, b, by rw [List.getElem?_set_ne (fun h => e h.symm)]; exact ha, by rw [List.getElem?_set_ne (fun h => e h.symm)]; exact hb, Nat.le_refl _, fun _ _ => ⟨rfl, rfl, rfl, rfl⟩⟩

/-- Block number 'id' becomes k', at place m', in world w': what has to be shown. -/
theorem set_ok {st : Store} {μ : List Mu} {w w' : World} {R : Nat → Prop} (h : SOk st μ w R) {id : Nat} {k k' : Blk} {m m' : Mu} (hk : st[id]? = some k) (hm : μ[id]? = some m) (hv : k.ver ≤ k'.ver)
    (hs : k'.ver = k.ver → k'.kind ≠ 0 → k'.kind = k.kind ∧ k'.sz = k.sz ∧ k'.cells.length = k.cells.length ∧ m' = m)
    (hos : w'.os = w.os) (htape : w'.tape = w.tape) (hout : w'.output = w.output) (hsize : w.heap.size ≤ w'.heap.size)
    (hkeep : ∀ b, b < w.heap.size → ¬ (k.kind = 2 ∧ b = m.b) → w'.heap[b]? = w.heap[b]?)
    (hplace : k'.kind = 2 → (k.kind = 2 ∧ m'.b = m.b) ∨ w.heap.size ≤ m'.b)
    (hvir : k'.kind = 1 → k'.cells = [])
    (hliv : k'.kind = 2 → ∃ arr ty, w'.heap[m'.b]? = some (.cells arr ty (0, 0)) ∧ arr.size = m'.asz ∧ m'.base + k'.cells.length ≤ m'.asz ∧
      ∀ (j : Nat) c, k'.cells[j]? = some c → ∃ v, arr[m'.base + j]? = some v ∧ one v ∧ RepV st μ w R c v) :
    SOk (st.set id k') (μ.set id m') w' R ∧ Ext st μ w R (st.set id k') (μ.set id m') w' R := by
  have hle : StLe st μ (st.set id k') (μ.set id m') := StLe.set hk hm hv hs
  have own0 : k.kind = 2 → Owns st μ m.b := fun h2 => ⟨id, k, m, hk, hm, h2, rfl⟩
  have hwk : ∀ b, b < w.heap.size → ¬ Owns st μ b → w'.heap[b]? = w.heap[b]? := fun b hb hn => hkeep b hb (fun ⟨h2, e⟩ => hn (e ▸ own0 h2))
  have hw : ∀ b, R b → w'.heap[b]? = w.heap[b]? := fun b hb => hwk b (h.lt b hb) (h.notOwn hb)
  have old : ∀ {i : Nat} {a b}, (st.set id k')[i]? = some a → (μ.set id m')[i]? = some b → (i = id ∧ a = k' ∧ b = m') ∨ (i ≠ id ∧ st[i]? = some a ∧ μ[i]? = some b) := by
    intro i a b ha hb
    rcases getElem?_set' ha with ⟨h1, h2, _⟩ | ⟨h1, h2⟩
    · rcases getElem?_set' hb with ⟨_, g2, _⟩ | ⟨g1, _⟩
      · exact .inl ⟨h1, h2, g2⟩
      · exact absurd h1 g1
    · rcases getElem?_set' hb with ⟨g1, _, _⟩ | ⟨_, g2⟩
      · exact absurd g1 h1
      · exact .inr ⟨h1, h2, g2⟩
  refine ⟨⟨by simp [h.len], fun b hb => by have := h.lt b hb; omega, fun n c hg => (h.glob n c hg).mono hw (fun _ h => h), ?_, ?_, ?_⟩, ⟨hos, htape, hout, hsize, hwk, fun b hb => hb, fun b hb => .inl hb, ?_, hle⟩⟩
  · intro i a b ha hb h2
    rcases old ha hb with ⟨rfl, rfl, rfl⟩ | ⟨hne, h1, g1⟩
    · obtain ⟨arr, ty, e1, e2, e3, e5⟩ := hliv h2
      refine ⟨arr, ty, e1, e2, e3, fun hR => ?_, fun j c hj => ?_⟩
      · rcases hplace h2 with ⟨g2, g3⟩ | g3
        · exact h.notOwn hR (g3 ▸ own0 g2)
        · have := h.lt _ hR; omega
      · obtain ⟨v, a1, a2, a3⟩ := e5 j c hj
        exact ⟨v, a1, a2, a3.mono hle hw (fun _ h => h)⟩
    · obtain ⟨arr, ty, e1, e2, e3, e4, e5⟩ := h.liv i a b h1 g1 h2
      have hb' := h.blt ⟨i, a, b, h1, g1, h2, rfl⟩
      exact ⟨arr, ty, by rw [hkeep b.b hb' (fun ⟨g2, g3⟩ => h.dis i id a k b m hne h1 hk g1 hm h2 g2 g3)]; exact e1, e2, e3, e4, fun j c hj => by
        obtain ⟨v, a1, a2, a3⟩ := e5 j c hj
        exact ⟨v, a1, a2, a3.mono hle hw (fun _ h => h)⟩⟩
  · intro i a ha h1
    rcases getElem?_set' ha with ⟨_, rfl, _⟩ | ⟨_, h2⟩
    · exact hvir h1
    · exact h.vir i a h2 h1
  · intro i j a a' b b' hij ha ha' hb hb' h2 h2'
    rcases old ha hb with ⟨rfl, rfl, rfl⟩ | ⟨hne, h1, g1⟩
    · rcases old ha' hb' with ⟨rfl, rfl, rfl⟩ | ⟨hne', h1', g1'⟩
      · exact absurd rfl hij
      · intro e
        rcases hplace h2 with ⟨g2, g3⟩ | g3
        · exact h.dis i j k a' m b' hij hk h1' hm g1' g2 h2' (g3.symm.trans e)
        · have := h.blt ⟨j, a', b', h1', g1', h2', rfl⟩; omega
    · rcases old ha' hb' with ⟨rfl, rfl, rfl⟩ | ⟨hne', h1', g1'⟩
      · intro e
        rcases hplace h2' with ⟨g2, g3⟩ | g3
        · exact h.dis i j a k b m hij h1 hk g1 hm h2 g2 (e.trans g3)
        · have := h.blt ⟨i, a, b, h1, g1, h2, rfl⟩; omega
      · exact h.dis i j a a' b b' hij h1 h1' g1 g1' h2 h2'
  · rintro b ⟨i, a, c, ha, hc, h2, rfl⟩
    rcases old ha hc with ⟨rfl, rfl, rfl⟩ | ⟨hne, h1, g1⟩
    · rcases hplace h2 with ⟨g2, g3⟩ | g3
      · exact .inr (g3 ▸ own0 g2)
      · exact .inl g3
    · exact .inr ⟨i, a, c, h1, g1, h2, rfl⟩

/-- A draw. -/
theorem drew_ok {st : Store} {μ : List Mu} {w : World} {R : Nat → Prop} (h : SOk st μ w R) : SOk st μ w.drew R ∧ Ext st μ w R st μ w.drew R := by
  refine ⟨⟨h.len, h.lt, fun n c hg => RepI.mono (w := w) (w' := w.drew) (fun _ _ => rfl) (fun _ h => h) (h.glob n c hg), ?_, h.vir, h.dis⟩, ⟨rfl, rfl, rfl, Nat.le_refl _, fun _ _ _ => rfl, fun _ h => h, fun _ h => .inl h, fun _ h => .inr h, StLe.refl _ _⟩⟩
  intro i k m hk hm h2
  obtain ⟨arr, ty, e1, e2, e3, e4, e5⟩ := h.liv i k m hk hm h2
  exact ⟨arr, ty, e1, e2, e3, e4, fun j c hj => by
    obtain ⟨v, a1, a2, a3⟩ := e5 j c hj
    exact ⟨v, a1, a2, RepV.mono (w := w) (w' := w.drew) (StLe.refl _ _) (fun _ _ => rfl) (fun _ h => h) a3⟩⟩

end Go.VS
