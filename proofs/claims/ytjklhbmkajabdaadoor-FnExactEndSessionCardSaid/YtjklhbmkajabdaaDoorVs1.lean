/- Values without memory, and how they stand for the model's values: plain lemmas for the proofs of this claim. -/
import Derived.Test.YtjklhbmkajabdaaDoorVs0
set_option linter.all false
namespace Go.VS
open Go Go.RowKit

/-- A value that is one cell. -/
def one : Value → Prop
  | .agg _ | .tuple _ => False
  | _ => True

inductive RepI (w : World) (R : Nat → Prop) : V → Value → Prop
  | x (v : Value) : RepI w R (.x v) v
  | nil (sz : Nat) (f : Nat → Nat → V) : RepI w R (.sl 0 sz f) (.slice none 0 0)
  | sl (n sz : Nat) (f : Nat → Nat → V) (b off cap : Nat) (g : Nat → Nat → Value) (hR : 0 < n → R b) (hc : n ≤ cap)
      (hg : ∀ i j, i < n → j < sz → w.cell? ⟨b, off + i * sz + j, none⟩ = some (g i j) ∧ one (g i j))
      (hf : ∀ i j, i < n → j < sz → RepI w R (f i j) (g i j)) : RepI w R (.sl n sz f) (.slice (some ⟨b, off, none⟩) n cap)
  | ip (n sz : Nat) (f : Nat → Nat → V) (i j b off : Nat) (g : Nat → Nat → Value) (hR : R b) (hi : i < n)
      (hg : ∀ i j, i < n → j < sz → w.cell? ⟨b, off + i * sz + j, none⟩ = some (g i j) ∧ one (g i j))
      (hf : ∀ i j, i < n → j < sz → RepI w R (f i j) (g i j)) : RepI w R (.ip n sz f i j) (.pointer (some ⟨b, off + i * sz + j, none⟩))
  | agg (cs : List V) (vs : List Value) (hl : cs.length = vs.length) (h : ∀ (k : Nat) c v, cs[k]? = some c → vs[k]? = some v → RepI w R c v) : RepI w R (.agg cs) (.agg vs.toArray)
  | tup (cs : List V) (vs : List Value) (hl : cs.length = vs.length) (h : ∀ (k : Nat) c v, cs[k]? = some c → vs[k]? = some v → RepI w R c v) : RepI w R (.tup cs) (.tuple vs.toArray)
  | fn (g : Fn) (cs : List V) (vs : List Value) (hl : cs.length = vs.length) (h : ∀ (k : Nat) c v, cs[k]? = some c → vs[k]? = some v → RepI w R c v) : RepI w R (.fn g cs) (.func g #[] vs.toArray)

theorem RepI.cut {w : World} {R : Nat → Prop} {n sz : Nat} {f : Nat → Nat → V} {v : Value} (h : RepI w R (.sl n sz f) v) : RepI w R (.sl n sz (VS.cut n sz f)) v := by
  cases h with
  | nil => exact .nil _ _
  | sl _ _ _ b off cap g hR hc hg hf =>
    refine .sl n sz _ b off cap g hR hc hg fun i j hi hj => ?_
    unfold VS.cut
    rw [if_pos ⟨hi, hj⟩]
    exact hf i j hi hj

/-- A block of the call's own: kind 0: gone; 1: empty and nowhere (a nil slice that will be appended to); 2: in memory. -/
structure Blk where
  kind : Nat
  ver : Nat
  sz : Nat
  cells : List V
deriving Inhabited
/-- Where it lies: the block, the first cell, how many cells the block has. -/
structure Mu where
  b : Nat
  base : Nat
  asz : Nat
deriving Inhabited

def RefOk (k : Blk) (m : Mu) (off n : Nat) (v : Value) : Prop :=
  (k.kind = 1 ∧ off = 0 ∧ n = 0 ∧ v = .slice none 0 0) ∨
  (k.kind = 2 ∧ (off + n) * k.sz ≤ k.cells.length ∧ ∃ cap, v = .slice (some ⟨m.b, m.base + off * k.sz, none⟩) n cap ∧ n ≤ cap ∧ m.base + (off + cap) * k.sz ≤ m.asz) ∨
  (k.kind = 2 ∧ n = 0 ∧ off * k.sz ≤ k.cells.length ∧ ∃ ad : Nat × Nat, v = .slice (some ⟨ad.1, ad.2, none⟩) 0 0)

def PtrOk (k : Blk) (m : Mu) (off : Nat) (v : Value) : Prop := k.kind = 2 ∧ v = .pointer (some ⟨m.b, m.base + off, none⟩)

abbrev Store := List Blk

inductive RepV (st : Store) (μ : List Mu) (w : World) (R : Nat → Prop) : V → Value → Prop
  | imm {c : V} {v : Value} (h : RepI w R c v) : RepV st μ w R c v
  | bad (v : Value) : RepV st μ w R .bad v
  | ref (id ver off n : Nat) (k : Blk) (m : Mu) (v : Value) (hk : st[id]? = some k) (hm : μ[id]? = some m) (hv : ver ≤ k.ver)
      (ho : one v) (h : k.ver = ver → k.kind ≠ 0 → RefOk k m off n v) : RepV st μ w R (.ref id ver off n) v
  | ptr (id ver off : Nat) (k : Blk) (m : Mu) (v : Value) (hk : st[id]? = some k) (hm : μ[id]? = some m) (hv : ver ≤ k.ver)
      (ho : one v) (h : k.ver = ver → k.kind ≠ 0 → PtrOk k m off v) : RepV st μ w R (.ptr id ver off) v
  | agg (cs : List V) (vs : List Value) (hl : cs.length = vs.length) (h : ∀ (k : Nat) c v, cs[k]? = some c → vs[k]? = some v → RepV st μ w R c v) : RepV st μ w R (.agg cs) (.agg vs.toArray)
  | tup (cs : List V) (vs : List Value) (hl : cs.length = vs.length) (h : ∀ (k : Nat) c v, cs[k]? = some c → vs[k]? = some v → RepV st μ w R c v) : RepV st μ w R (.tup cs) (.tuple vs.toArray)
  | fn (g : Fn) (cs : List V) (vs : List Value) (hl : cs.length = vs.length) (h : ∀ (k : Nat) c v, cs[k]? = some c → vs[k]? = some v → RepV st μ w R c v) : RepV st μ w R (.fn g cs) (.func g #[] vs.toArray)

theorem RepI.mono {w w' : World} {R R' : Nat → Prop} (hw : ∀ b, R b → w'.heap[b]? = w.heap[b]?) (hR : ∀ b, R b → R' b) {c : V} {v : Value} (h : RepI w R c v) : RepI w' R' c v := by
  have cell : ∀ b, R b → ∀ o, w'.cell? ⟨b, o, none⟩ = w.cell? ⟨b, o, none⟩ := fun b hb o => by
    unfold World.cell?; rw [hw b hb]
  induction h with
  | x v => exact .x v
  | nil sz f => exact .nil sz f
  | sl n sz f b off cap g hR' hc hg hf ih =>
    exact .sl n sz f b off cap g (fun h => hR _ (hR' h)) hc (fun i j hi hj => by rw [cell b (hR' (by omega))]; exact hg i j hi hj) ih
  | ip n sz f i j b off g hR' hi hg hf ih =>
    exact .ip n sz f i j b off g (hR _ hR') hi (fun i j hi hj => by rw [cell b hR']; exact hg i j hi hj) ih
  | agg cs vs hl h ih => exact .agg cs vs hl ih
  | tup cs vs hl h ih => exact .tup cs vs hl ih
  | fn g cs vs hl h ih => exact .fn g cs vs hl ih

/-- How a store may go on: a block that keeps its version keeps its make and its place, or is gone. -/
def StLe (st : Store) (μ : List Mu) (st' : Store) (μ' : List Mu) : Prop :=
  ∀ (id : Nat) k m, st[id]? = some k → μ[id]? = some m → ∃ k' m', st'[id]? = some k' ∧ μ'[id]? = some m' ∧ k.ver ≤ k'.ver ∧
    (k'.ver = k.ver → k'.kind ≠ 0 → k'.kind = k.kind ∧ k'.sz = k.sz ∧ k'.cells.length = k.cells.length ∧ m' = m)

theorem StLe.refl (st : Store) (μ : List Mu) : StLe st μ st μ := fun _ k m hk hm => ⟨k, m, hk, hm, Nat.le_refl _, fun _ _ => ⟨rfl, rfl, rfl, rfl⟩⟩

theorem StLe.trans {a b c : Store} {x y z : List Mu} (h : StLe a x b y) (h' : StLe b y c z) : StLe a x c z := fun id k m hk hm => by
  obtain ⟨k1, m1, hk1, hm1, hv1, he1⟩ := h id k m hk hm
  obtain ⟨k2, m2, hk2, hm2, hv2, he2⟩ := h' id k1 m1 hk1 hm1
  refine ⟨k2, m2, hk2, hm2, Nat.le_trans hv1 hv2, fun hv hn => ?_⟩
  have e2 : k2.ver = k1.ver := by omega
  have e1 : k1.ver = k.ver := by omega
  obtain ⟨a1, a2, a3, a4⟩ := he2 e2 hn
  obtain ⟨b1, b2, b3, b4⟩ := he1 e1 (by rw [← a1]; exact hn)
  exact ⟨a1.trans b1, a2.trans b2, a3.trans b3, a4.trans b4⟩

theorem RepV.mono {st st' : Store} {μ μ' : List Mu} {w w' : World} {R R' : Nat → Prop} (hs : StLe st μ st' μ') (hw : ∀ b, R b → w'.heap[b]? = w.heap[b]?) (hR : ∀ b, R b → R' b) {c : V} {v : Value}
    (h : RepV st μ w R c v) : RepV st' μ' w' R' c v := by
  induction h with
  | imm h => exact .imm (h.mono hw hR)
  | bad v => exact .bad v
  | ref id ver off n k m v hk hm hv ho h =>
    obtain ⟨k', m', hk', hm', hv', he⟩ := hs id k m hk hm
    refine .ref id ver off n k' m' v hk' hm' (Nat.le_trans hv hv') ho (fun e hn => ?_)
    obtain ⟨e1, e2, e3, rfl⟩ := he (by omega) hn
    have := h (by omega) (by rw [← e1]; exact hn)
    unfold RefOk at *
    rw [e1, e2, e3]; exact this
  | ptr id ver off k m v hk hm hv ho h =>
    obtain ⟨k', m', hk', hm', hv', he⟩ := hs id k m hk hm
    refine .ptr id ver off k' m' v hk' hm' (Nat.le_trans hv hv') ho (fun e hn => ?_)
    obtain ⟨e1, e2, e3, rfl⟩ := he (by omega) hn
    have := h (by omega) (by rw [← e1]; exact hn)
    unfold PtrOk at *
    rw [e1]; exact this
  | agg cs vs hl h ih => exact .agg cs vs hl ih
  | tup cs vs hl h ih => exact .tup cs vs hl ih
  | fn g cs vs hl h ih => exact .fn g cs vs hl ih

/-- The store as it lies in the world. -/
structure SOk (st : Store) (μ : List Mu) (w : World) (R : Nat → Prop) : Prop where
  len : μ.length = st.length
  lt : ∀ b, R b → b < w.heap.size
  glob : ∀ n c, glk globs n = some c → RepI w R c (.pointer (some ⟨n, 0, none⟩))
  liv : ∀ (i : Nat) k m, st[i]? = some k → μ[i]? = some m → k.kind = 2 → ∃ arr ty, w.heap[m.b]? = some (.cells arr ty (0, 0)) ∧ arr.size = m.asz ∧ m.base + k.cells.length ≤ m.asz ∧ ¬ R m.b ∧
    ∀ (j : Nat) c, k.cells[j]? = some c → ∃ v, arr[m.base + j]? = some v ∧ one v ∧ RepV st μ w R c v
  vir : ∀ (i : Nat) k, st[i]? = some k → k.kind = 1 → k.cells = []
  dis : ∀ (i j : Nat) k k' m m', i ≠ j → st[i]? = some k → st[j]? = some k' → μ[i]? = some m → μ[j]? = some m' → k.kind = 2 → k'.kind = 2 → m.b ≠ m'.b

/-- Block b is one of the store's. -/
def Owns (st : Store) (μ : List Mu) (b : Nat) : Prop := ∃ i : Nat, ∃ k m, st[i]? = some k ∧ μ[i]? = some m ∧ k.kind = 2 ∧ m.b = b

/-- How the world may go on. -/
structure Ext (st : Store) (μ : List Mu) (w : World) (R : Nat → Prop) (st' : Store) (μ' : List Mu) (w' : World) (R' : Nat → Prop) : Prop where
  os : w'.os = w.os
  tape : w'.tape = w.tape
  output : w'.output = w.output
  size : w.heap.size ≤ w'.heap.size
  keep : ∀ b, b < w.heap.size → ¬ Owns st μ b → w'.heap[b]? = w.heap[b]?
  sub : ∀ b, R b → R' b
  new : ∀ b, R' b → R b ∨ w.heap.size ≤ b ∨ Owns st μ b
  own : ∀ b, Owns st' μ' b → w.heap.size ≤ b ∨ Owns st μ b
  stle : StLe st μ st' μ'

theorem Ext.refl (st : Store) (μ : List Mu) (w : World) (R : Nat → Prop) : Ext st μ w R st μ w R :=
  ⟨rfl, rfl, rfl, Nat.le_refl _, fun _ _ _ => rfl, fun _ h => h, fun _ h => .inl h, fun _ h => .inr h, StLe.refl _ _⟩

theorem Ext.trans {s1 s2 s3 : Store} {m1 m2 m3 : List Mu} {w1 w2 w3 : World} {r1 r2 r3 : Nat → Prop} (h : Ext s1 m1 w1 r1 s2 m2 w2 r2) (k : Ext s2 m2 w2 r2 s3 m3 w3 r3) : Ext s1 m1 w1 r1 s3 m3 w3 r3 where
  os := k.os.trans h.os
  tape := k.tape.trans h.tape
  output := k.output.trans h.output
  size := Nat.le_trans h.size k.size
  keep b hb hn := (k.keep b (Nat.lt_of_lt_of_le hb h.size) (fun ho => by
    rcases h.own b ho with h1 | h1
    · omega
    · exact hn h1)).trans (h.keep b hb hn)
  sub b hb := k.sub b (h.sub b hb)
  new b hb := by
    rcases k.new b hb with h1 | h1 | h1
    · exact h.new b h1
    · exact .inr (.inl (Nat.le_trans h.size h1))
    · rcases h.own b h1 with h2 | h2
      · exact .inr (.inl h2)
      · exact .inr (.inr h2)
  own b hb := by
    rcases k.own b hb with h1 | h1
    · exact .inl (Nat.le_trans h.size h1)
    · exact h.own b h1
  stle := h.stle.trans k.stle

theorem SOk.notOwn {st : Store} {μ : List Mu} {w : World} {R : Nat → Prop} (h : SOk st μ w R) {b : Nat} (hb : R b) : ¬ Owns st μ b := by
  rintro ⟨i, k, m, hk, hm, h2, rfl⟩
  obtain ⟨_, _, _, _, _, hn, _⟩ := h.liv i k m hk hm h2
  exact hn hb

theorem Ext.heap {st st' : Store} {μ μ' : List Mu} {w w' : World} {R R' : Nat → Prop} (hs : SOk st μ w R) (h : Ext st μ w R st' μ' w' R') : ∀ b, R b → w'.heap[b]? = w.heap[b]? :=
  fun b hb => h.keep b (hs.lt b hb) (hs.notOwn hb)

theorem RepV.ext {st st' : Store} {μ μ' : List Mu} {w w' : World} {R R' : Nat → Prop} (hs : SOk st μ w R) (h : Ext st μ w R st' μ' w' R') {c : V} {v : Value} (hc : RepV st μ w R c v) : RepV st' μ' w' R' c v :=
  hc.mono h.stle (h.heap hs) h.sub

theorem RepI.ext {st st' : Store} {μ μ' : List Mu} {w w' : World} {R R' : Nat → Prop} (hs : SOk st μ w R) (h : Ext st μ w R st' μ' w' R') {c : V} {v : Value} (hc : RepI w R c v) : RepI w' R' c v :=
  hc.mono (h.heap hs) h.sub

/-- A value whose mode of being needs no store. -/
def V.pure : V → Bool
  | .x _ | .sl .. | .ip .. => true
  | .agg cs => all cs
  | .tup cs => all cs
  | .fn _ cs => all cs
  | _ => false
where all : List V → Bool
  | [] => true
  | c :: r => c.pure && all r

theorem V.pure_all {cs : List V} (h : V.pure.all cs = true) : ∀ (k : Nat) c, cs[k]? = some c → c.pure = true := by
  induction cs with
  | nil => intro k c hc; simp at hc
  | cons a r ih =>
    simp only [V.pure.all, Bool.and_eq_true] at h
    intro k c hc
    cases k with
    | zero => simp at hc; subst hc; exact h.1
    | succ k => exact ih h.2 k c (by simpa using hc)

theorem RepV.toI {st : Store} {μ : List Mu} {w : World} {R : Nat → Prop} {c : V} {v : Value} (h : RepV st μ w R c v) (hp : c.pure = true) : RepI w R c v := by
  induction h with
  | imm h => exact h
  | bad v => simp [V.pure] at hp
  | ref => simp [V.pure] at hp
  | ptr => simp [V.pure] at hp
  | agg cs vs hl h ih => exact .agg cs vs hl fun k c v hc hv => ih k c v hc hv (V.pure_all (by simpa [V.pure] using hp) k c hc)
  | tup cs vs hl h ih => exact .tup cs vs hl fun k c v hc hv => ih k c v hc hv (V.pure_all (by simpa [V.pure] using hp) k c hc)
  | fn g cs vs hl h ih => exact .fn g cs vs hl fun k c v hc hv => ih k c v hc hv (V.pure_all (by simpa [V.pure] using hp) k c hc)

/-- The parts of a value in memory's cells. -/
def V.cells : V → List V
  | .agg cs => cs
  | c => [c]

end Go.VS
