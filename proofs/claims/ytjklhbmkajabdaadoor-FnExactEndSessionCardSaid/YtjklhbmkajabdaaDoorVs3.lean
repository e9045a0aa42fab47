/- What the operations ask is enough: each operation of the model does what its short form says. -/
import Derived.Test.YtjklhbmkajabdaaDoorVs2
set_option linter.all false
namespace Go.VS
open Go Go.RowKit

section inversions
variable {st : Store} {μ : List Mu} {w : World} {R : Nat → Prop}

theorem RepV.x_inv {u v : Value} (h : RepV st μ w R (.x u) v) : v = u := by
  cases h with
  | imm h => cases h; rfl

theorem RepI.sl_inv {n sz : Nat} {f : Nat → Nat → V} {v : Value} (h : RepI w R (.sl n sz f) v) :
    (n = 0 ∧ v = .slice none 0 0) ∨ ∃ (b off cap : Nat) (g : Nat → Nat → Value), (0 < n → R b) ∧ n ≤ cap ∧ (∀ i j, i < n → j < sz → w.cell? ⟨b, off + i * sz + j, none⟩ = some (g i j) ∧ one (g i j)) ∧
      (∀ i j, i < n → j < sz → RepI w R (f i j) (g i j)) ∧ v = .slice (some ⟨b, off, none⟩) n cap := by
  cases h with
  | nil => exact .inl ⟨rfl, rfl⟩
  | sl _ _ _ b off cap g hR hc hg hf => exact .inr ⟨b, off, cap, g, hR, hc, hg, hf, rfl⟩

theorem RepV.sl_inv {n sz : Nat} {f : Nat → Nat → V} {v : Value} (h : RepV st μ w R (.sl n sz f) v) : RepI w R (.sl n sz f) v := by
  cases h with
  | imm h => exact h

theorem RepV.ip_inv {n sz : Nat} {f : Nat → Nat → V} {i j : Nat} {v : Value} (h : RepV st μ w R (.ip n sz f i j) v) :
    ∃ (b off : Nat) (g : Nat → Nat → Value), R b ∧ i < n ∧ (∀ i j, i < n → j < sz → w.cell? ⟨b, off + i * sz + j, none⟩ = some (g i j) ∧ one (g i j)) ∧
      (∀ i j, i < n → j < sz → RepI w R (f i j) (g i j)) ∧ v = .pointer (some ⟨b, off + i * sz + j, none⟩) := by
  cases h with
  | imm h => cases h with
    | ip _ _ _ _ _ b off g hR hi hg hf => exact ⟨b, off, g, hR, hi, hg, hf, rfl⟩

theorem RepV.ref_inv {id ver off n : Nat} {v : Value} (h : RepV st μ w R (.ref id ver off n) v) :
    ∃ k m, st[id]? = some k ∧ μ[id]? = some m ∧ ver ≤ k.ver ∧ (k.ver = ver → k.kind ≠ 0 → RefOk k m off n v) := by
  cases h with
  | imm h => cases h
  | ref _ _ _ _ k m _ hk hm hv ho h => exact ⟨k, m, hk, hm, hv, h⟩

theorem RepV.ptr_inv {id ver off : Nat} {v : Value} (h : RepV st μ w R (.ptr id ver off) v) :
    ∃ k m, st[id]? = some k ∧ μ[id]? = some m ∧ ver ≤ k.ver ∧ (k.ver = ver → k.kind ≠ 0 → PtrOk k m off v) := by
  cases h with
  | imm h => cases h
  | ptr _ _ _ k m _ hk hm hv ho h => exact ⟨k, m, hk, hm, hv, h⟩

theorem RepV.agg_inv {cs : List V} {v : Value} (h : RepV st μ w R (.agg cs) v) :
    ∃ vs : List Value, cs.length = vs.length ∧ (∀ (k : Nat) c u, cs[k]? = some c → vs[k]? = some u → RepV st μ w R c u) ∧ v = .agg vs.toArray := by
  cases h with
  | imm h => cases h with
    | agg _ vs hl h => exact ⟨vs, hl, fun k c u hc hu => .imm (h k c u hc hu), rfl⟩
  | agg _ vs hl h => exact ⟨vs, hl, h, rfl⟩

theorem RepV.tup_inv {cs : List V} {v : Value} (h : RepV st μ w R (.tup cs) v) :
    ∃ vs : List Value, cs.length = vs.length ∧ (∀ (k : Nat) c u, cs[k]? = some c → vs[k]? = some u → RepV st μ w R c u) ∧ v = .tuple vs.toArray := by
  cases h with
  | imm h => cases h with
    | tup _ vs hl h => exact ⟨vs, hl, fun k c u hc hu => .imm (h k c u hc hu), rfl⟩
  | tup _ vs hl h => exact ⟨vs, hl, h, rfl⟩

theorem RepV.fn_inv {g : Fn} {cs : List V} {v : Value} (h : RepV st μ w R (.fn g cs) v) :
    ∃ vs : List Value, cs.length = vs.length ∧ (∀ (k : Nat) c u, cs[k]? = some c → vs[k]? = some u → RepV st μ w R c u) ∧ v = .func g #[] vs.toArray := by
  cases h with
  | imm h => cases h with
    | fn _ _ vs hl h => exact ⟨vs, hl, fun k c u hc hu => .imm (h k c u hc hu), rfl⟩
  | fn _ _ vs hl h => exact ⟨vs, hl, h, rfl⟩

theorem getB_inv {id ver : Nat} {K : Blk → Prop} (h : getB st id ver K) : ∃ k, st[id]? = some k ∧ k.ver = ver ∧ k.kind ≠ 0 ∧ K k := by
  unfold getB at h
  split at h
  · rename_i k hk; exact ⟨k, hk, h⟩
  · exact h.elim

theorem RepV.ref_get {id ver off n : Nat} {v : Value} {k : Blk} (h : RepV st μ w R (.ref id ver off n) v) (hk : st[id]? = some k) (hv : k.ver = ver) (h0 : k.kind ≠ 0) :
    ∃ m, μ[id]? = some m ∧ RefOk k m off n v := by
  obtain ⟨k', m, hk', hm, _, hr⟩ := h.ref_inv
  rw [hk] at hk'; cases hk'
  exact ⟨m, hm, hr hv h0⟩

theorem RepV.ptr_get {id ver off : Nat} {v : Value} {k : Blk} (h : RepV st μ w R (.ptr id ver off) v) (hk : st[id]? = some k) (hv : k.ver = ver) (h0 : k.kind ≠ 0) :
    ∃ m, μ[id]? = some m ∧ PtrOk k m off v := by
  obtain ⟨k', m, hk', hm, _, hr⟩ := h.ptr_inv
  rw [hk] at hk'; cases hk'
  exact ⟨m, hm, hr hv h0⟩
end inversions

theorem one_of {st : Store} {μ : List Mu} {w : World} {R : Nat → Prop} {c : V} {v : Value} (h : RepV st μ w R c v) (h1 : one1 c = true) : one v := by
  cases c with
  | x u => rw [h.x_inv]; cases u <;> simp_all [one1, one]
  | sl n sz f => rcases h.sl_inv.sl_inv with ⟨_, rfl⟩ | ⟨_, _, _, _, _, _, _, _, rfl⟩ <;> trivial
  | ip n sz f i j => obtain ⟨_, _, _, _, _, _, _, rfl⟩ := h.ip_inv; trivial
  | ref id ver off n => cases h with
    | imm h => cases h
    | ref _ _ _ _ _ _ _ _ _ _ ho => exact ho
  | ptr id ver off => cases h with
    | imm h => cases h
    | ptr _ _ _ _ _ _ _ _ _ ho => exact ho
  | agg => simp [one1] at h1
  | tup => simp [one1] at h1
  | fn g cs => obtain ⟨_, _, _, rfl⟩ := h.fn_inv; trivial
  | bad => simp [one1] at h1

end Go.VS
