/- Several blocks of the call's own are handed back, in a chosen order. -/
import Derived.Test.YtjklhbmkajabdaaDoorVs17
set_option linter.all false
namespace Go.VS
open Go Go.RowKit

def lkR : List (Nat × Nat × Nat) → Nat → Nat → Option Nat
  | [], _, _ => none
  | (old, v, new) :: r, id, ver => if id = old ∧ ver = v then some new else lkR r id ver

def V.ren (t : List (Nat × Nat × Nat)) : V → V
  | .ref id ver off n => match lkR t id ver with
    | some new => .ref new 0 off n
    | none => .bad
  | .ptr id ver off => match lkR t id ver with
    | some new => .ptr new 0 off
    | none => .bad
  | .agg cs => .agg (all cs)
  | .tup cs => .tup (all cs)
  | .fn g cs => .fn g (all cs)
  | v => v
where all : List V → List V
  | [] => []
  | c :: r => c.ren t :: all r

theorem V.ren_all (t : List (Nat × Nat × Nat)) : ∀ cs : List V, V.ren.all t cs = cs.map (V.ren t)
  | [] => rfl
  | c :: r => by rw [V.ren.all, List.map_cons, V.ren_all t r]

/-- Old numbers, versions, new numbers. -/
def tblR (m : Nat) : List Nat → List Blk → Nat → List (Nat × Nat × Nat)
  | j :: js, k :: ks, p => (m + j, k.ver, m + p) :: tblR m js ks (p + 1)
  | _, _, _ => []

def Blk.ren (t : List (Nat × Nat × Nat)) (k : Blk) : Blk := ⟨k.kind, 0, k.sz, bif k.kind == 2 then k.cells.map (V.ren t) else k.cells⟩

theorem lkR_tbl {m id ver new : Nat} : ∀ {js : List Nat} {ks : List Blk} {p : Nat}, lkR (tblR m js ks p) id ver = some new → ∃ (q j : Nat) (k : Blk), js[q]? = some j ∧ ks[q]? = some k ∧ id = m + j ∧ ver = k.ver ∧ new = m + (p + q)
  | [], _, _, h => by simp [tblR, lkR] at h
  | _ :: _, [], _, h => by simp [tblR, lkR] at h
  | j :: js, k :: ks, p, h => by
    simp only [tblR, lkR] at h
    split at h
    · rename_i e
      cases h
      exact ⟨0, j, k, rfl, rfl, e.1, e.2, by omega⟩
    · obtain ⟨q, j', k', h1, h2, h3, h4, h5⟩ := lkR_tbl h
      exact ⟨q + 1, j', k', by simpa using h1, by simpa using h2, h3, h4, by omega⟩

theorem RepI.ren {w : World} {R : Nat → Prop} {t : List (Nat × Nat × Nat)} {c : V} {v : Value} (h : RepI w R c v) : RepI w R (c.ren t) v := by
  have parts : ∀ {cs : List V} {vs : List Value}, (∀ (i : Nat) c v, cs[i]? = some c → vs[i]? = some v → RepI w R (c.ren t) v) → ∀ (i : Nat) c v, (V.ren.all t cs)[i]? = some c → vs[i]? = some v → RepI w R c v := fun ih i c v hc hv => by
    rw [V.ren_all, List.getElem?_map, Option.map_eq_some_iff] at hc
    obtain ⟨c', hc', rfl⟩ := hc
    exact ih i c' v hc' hv
  induction h with
  | x v => exact .x v
  | nil sz f => exact .nil sz f
  | sl n sz f b off cap g hR hc hg hf => exact .sl n sz f b off cap g hR hc hg hf
  | ip n sz f i j b off g hR hi hg hf => exact .ip n sz f i j b off g hR hi hg hf
  | agg cs vs hl h ih => exact .agg _ vs (by rw [V.ren_all]; simpa using hl) (parts ih)
  | tup cs vs hl h ih => exact .tup _ vs (by rw [V.ren_all]; simpa using hl) (parts ih)
  | fn g cs vs hl h ih => exact .fn g _ vs (by rw [V.ren_all]; simpa using hl) (parts ih)

theorem RepV.ren {st st' : Store} {μ μ' : List Mu} {w : World} {R : Nat → Prop} {t : List (Nat × Nat × Nat)}
    (ht : ∀ id ver new, lkR t id ver = some new → ∃ k k' m, st[id]? = some k ∧ μ[id]? = some m ∧ ver = k.ver ∧ k.kind ≠ 0 ∧ st'[new]? = some k' ∧ μ'[new]? = some m ∧ k'.ver = 0 ∧ k'.kind = k.kind ∧ k'.sz = k.sz ∧ k'.cells.length = k.cells.length)
    {c : V} {v : Value} (h : RepV st μ w R c v) : RepV st' μ' w R (c.ren t) v := by
  have parts : ∀ {cs : List V} {vs : List Value}, (∀ (i : Nat) c v, cs[i]? = some c → vs[i]? = some v → RepV st' μ' w R (c.ren t) v) → ∀ (i : Nat) c v, (V.ren.all t cs)[i]? = some c → vs[i]? = some v → RepV st' μ' w R c v := fun ih i c v hc hv => by
    rw [V.ren_all, List.getElem?_map, Option.map_eq_some_iff] at hc
    obtain ⟨c', hc', rfl⟩ := hc
    exact ih i c' v hc' hv
  induction h with
  | imm h => exact .imm h.ren
  | bad v => exact .bad v
  | ref id ver off n b m v hk hm hv ho h =>
    unfold V.ren
    cases hl : lkR t id ver with
    | none => exact .bad v
    | some new =>
      obtain ⟨k, k', m', h1, h2, rfl, h0, h3, h4, h5, h6, h7, h8⟩ := ht id ver new hl
      rw [hk] at h1; cases h1
      rw [hm] at h2; cases h2
      refine .ref new 0 off n k' m v h3 h4 (by omega) ho fun _ _ => ?_
      have := h rfl h0
      unfold RefOk at *
      rw [h6, h7, h8]; exact this
  | ptr id ver off b m v hk hm hv ho h =>
    unfold V.ren
    cases hl : lkR t id ver with
    | none => exact .bad v
    | some new =>
      obtain ⟨k, k', m', h1, h2, rfl, h0, h3, h4, h5, h6, h7, h8⟩ := ht id ver new hl
      rw [hk] at h1; cases h1
      rw [hm] at h2; cases h2
      refine .ptr new 0 off k' m v h3 h4 (by omega) ho fun _ _ => ?_
      have := h rfl h0
      unfold PtrOk at *
      rw [h6]; exact this
  | agg cs vs hl h ih => exact .agg _ vs (by rw [V.ren_all]; simpa using hl) (parts ih)
  | tup cs vs hl h ih => exact .tup _ vs (by rw [V.ren_all]; simpa using hl) (parts ih)
  | fn g cs vs hl h ih => exact .fn g _ vs (by rw [V.ren_all]; simpa using hl) (parts ih)

theorem Fin.sel {st0 st1 l : Store} {Q : V → Store → Prop} {r : V} (hb : Base st0 st1) (js : List Nat) (ks : List Blk) (hj : js.map (fun j => l[j]?) = ks.map some) (h0 : ∀ k ∈ ks, k.kind ≠ 0) (hnd : js.Nodup)
    (h : Q (r.ren (tblR st0.length js ks 0)) (st1 ++ ks.map (Blk.ren (tblR st0.length js ks 0)))) : Fin st0 Q r (st1 ++ l) := by
  intro μ0 w0 R0 μ w R val hs0 hx hs hr
  have hlen : js.length = ks.length := by have := congrArg List.length hj; simpa using this
  have hget : ∀ {q j : Nat} {k : Blk}, js[q]? = some j → ks[q]? = some k → l[j]? = some k := fun {q j k} h1 h2 => by
    have := congrArg (fun x => x[q]?) hj
    simp only [List.getElem?_map, h1, h2, Option.map_some] at this
    exact Option.some.inj this
  have hml : μ.length = st0.length + l.length := by rw [hs.len]; simp [hb.1]
  have hmj : ∀ {j : Nat} {k : Blk}, l[j]? = some k → ∃ m, μ[st0.length + j]? = some m := fun {j k} hk =>
    ⟨_, List.getElem?_eq_getElem (by have := getElem?_lt hk; omega)⟩
  have hold : ∀ {j : Nat} {k : Blk}, l[j]? = some k → (st1 ++ l)[st0.length + j]? = some k := fun {j k} hk => by
    rw [List.getElem?_append_right (by rw [hb.1]; omega), hb.1]; simpa using hk
  generalize ht : tblR st0.length js ks 0 = t at h
  have htl : (μ.take st0.length).length = st0.length := by simp; omega
  -- the new places
  let μ' := μ.take st0.length ++ js.map fun j => (μ[st0.length + j]?).getD default
  have hnewM : ∀ {q j : Nat} {m : Mu}, js[q]? = some j → μ[st0.length + j]? = some m → μ'[st0.length + q]? = some m := fun {q j m} h1 h2 => by
    show (μ.take st0.length ++ _)[_]? = _
    rw [List.getElem?_append_right (by omega), htl]
    simp [h1, h2]
  have hnewB : ∀ {q : Nat} {k : Blk}, ks[q]? = some k → (st1 ++ ks.map (Blk.ren t))[st0.length + q]? = some (k.ren t) := fun {q k} h1 => by
    rw [List.getElem?_append_right (by rw [hb.1]; omega), hb.1]
    simp [h1]
  have htab : ∀ id ver new, lkR t id ver = some new → ∃ k k' m, (st1 ++ l)[id]? = some k ∧ μ[id]? = some m ∧ ver = k.ver ∧ k.kind ≠ 0 ∧ (st1 ++ ks.map (Blk.ren t))[new]? = some k' ∧ μ'[new]? = some m ∧ k'.ver = 0 ∧ k'.kind = k.kind ∧ k'.sz = k.sz ∧ k'.cells.length = k.cells.length := fun id ver new hl => by
    rw [← ht] at hl
    obtain ⟨q, j, k, h1, h2, rfl, rfl, rfl⟩ := lkR_tbl hl
    have hk := hget h1 h2
    obtain ⟨m, hm⟩ := hmj hk
    refine ⟨k, k.ren t, m, hold hk, hm, rfl, h0 k (List.mem_of_getElem? h2), by rw [Nat.zero_add]; exact hnewB h2, by rw [Nat.zero_add]; exact hnewM h1 hm, rfl, rfl, rfl, ?_⟩
    unfold Blk.ren; cases (k.kind == 2) <;> simp
  have key : ∀ {c : V} {v : Value}, RepV (st1 ++ l) μ w R c v → RepV (st1 ++ ks.map (Blk.ren t)) μ' w R (c.ren t) v := fun h => RepV.ren htab h
  have keep : ∀ {c : V} {v : Value}, RepV (st1 ++ l) μ w R c v → c.under st0.length = true → RepV (st1 ++ ks.map (Blk.ren t)) μ' w R c v := fun {c v} h hu => by
    have := h.trunc hu
    rw [take_base hb.1] at this
    refine this.mono (fun id k m hk hm => ⟨k, m, getElem?_left _ hk, getElem?_left _ hm, Nat.le_refl _, fun _ _ => ⟨rfl, rfl, rfl, rfl⟩⟩) (fun _ _ => rfl) (fun _ h => h)
  -- where a block of the new store comes from
  have from' : ∀ {i : Nat} {b : Blk} {m : Mu}, (st1 ++ ks.map (Blk.ren t))[i]? = some b → μ'[i]? = some m → (i < st0.length ∧ st1[i]? = some b ∧ (st1 ++ l)[i]? = some b ∧ μ[i]? = some m) ∨ ∃ (q j : Nat) (k : Blk), i = st0.length + q ∧ js[q]? = some j ∧ ks[q]? = some k ∧ b = k.ren t ∧ (st1 ++ l)[st0.length + j]? = some k ∧ μ[st0.length + j]? = some m := fun {i b m} h1 h2 => by
    by_cases hi : i < st0.length
    · left
      have h1' : st1[i]? = some b := by rw [List.getElem?_append_left (by rw [hb.1]; exact hi)] at h1; exact h1
      have h2' : μ[i]? = some m := by
        have h2 : (μ.take st0.length ++ _)[i]? = some m := h2
        rw [List.getElem?_append_left (by omega)] at h2
        exact (getElem?_take' h2).2
      exact ⟨hi, h1', getElem?_left l h1', h2'⟩
    · right
      rw [List.getElem?_append_right (by rw [hb.1]; omega), hb.1, List.getElem?_map, Option.map_eq_some_iff] at h1
      obtain ⟨k, hk, rfl⟩ := h1
      have hq : i - st0.length < js.length := by rw [hlen]; exact getElem?_lt hk
      obtain ⟨j, hjq⟩ : ∃ j, js[i - st0.length]? = some j := ⟨_, List.getElem?_eq_getElem hq⟩
      have hl := hget hjq hk
      obtain ⟨m', hm'⟩ := hmj hl
      have := hnewM hjq hm'
      rw [show st0.length + (i - st0.length) = i by omega, h2] at this
      cases this
      exact ⟨i - st0.length, j, k, by omega, hjq, hk, rfl, hold hl, hm'⟩
  have hle : StLe st0 μ0 (st1 ++ ks.map (Blk.ren t)) μ' := fun id b q hb' hq => by
    obtain ⟨k', m', r1, r2, r3⟩ := hx.stle id b q hb' hq
    have hlt := getElem?_lt hb'
    refine ⟨k', m', getElem?_left _ ?_, getElem?_left _ (by rw [List.getElem?_take_of_lt hlt]; exact r2), r3⟩
    rw [List.getElem?_append_left (by rw [hb.1]; exact hlt)] at r1
    exact r1
  have hrk : ∀ {k : Blk}, k.kind = 2 → (k.ren t).cells = k.cells.map (V.ren t) := fun {k} h => by simp [Blk.ren, h]
  refine ⟨_, _, μ', R, h, ⟨hx.os, hx.tape, hx.output, hx.size, hx.keep, hx.sub, hx.new, fun b hbo => ?_, hle⟩, ⟨by simp only [μ', List.length_append, htl, hb.1, List.length_map, hlen], hs.lt, hs.glob, fun i b q hbi hqi h2 => ?_, fun i b hbi h1 => ?_, fun i i' b b' q q' hne h1 h2 h3 h4 h5 h6 => ?_⟩, key hr⟩
  · obtain ⟨i, b', q, h1, h2, h3, rfl⟩ := hbo
    rcases from' h1 h2 with ⟨_, _, g1, g2⟩ | ⟨q', j, k, _, _, _, rfl, g1, g2⟩
    · exact hx.own _ ⟨i, b', q, g1, g2, h3, rfl⟩
    · exact hx.own _ ⟨_, k, q, g1, g2, h3, rfl⟩
  · rcases from' hbi hqi with ⟨hi, g0, g1, g2⟩ | ⟨q', j, k, _, _, _, rfl, g1, g2⟩
    · obtain ⟨arr, ty, q1, q2, q3, q4, q5⟩ := hs.liv i b q g1 g2 h2
      refine ⟨arr, ty, q1, q2, q3, q4, fun c' c hc => ?_⟩
      obtain ⟨v, p1, p2, p3⟩ := q5 c' c hc
      exact ⟨v, p1, p2, keep p3 (V.under_all (hb.under hs0 i b g0 h2) c' c hc)⟩
    · have h2 : k.kind = 2 := h2
      obtain ⟨arr, ty, q1, q2, q3, q4, q5⟩ := hs.liv _ k q g1 g2 h2
      refine ⟨arr, ty, q1, q2, by rw [hrk h2]; simpa using q3, q4, fun c' c hc => ?_⟩
      rw [hrk h2, List.getElem?_map, Option.map_eq_some_iff] at hc
      obtain ⟨c0, hc0, rfl⟩ := hc
      obtain ⟨v, p1, p2, p3⟩ := q5 c' c0 hc0
      exact ⟨v, p1, p2, key p3⟩
  · by_cases hi : i < st0.length
    · rw [List.getElem?_append_left (by rw [hb.1]; exact hi)] at hbi
      exact hs.vir i b (getElem?_left l hbi) h1
    · rw [List.getElem?_append_right (by rw [hb.1]; omega), hb.1, List.getElem?_map, Option.map_eq_some_iff] at hbi
      obtain ⟨k, hk, rfl⟩ := hbi
      have h1 : k.kind = 1 := h1
      obtain ⟨j, hjq⟩ : ∃ j, js[i - st0.length]? = some j := ⟨_, List.getElem?_eq_getElem (by rw [hlen]; exact getElem?_lt hk)⟩
      have := hs.vir _ k (hold (hget hjq hk)) h1
      simp [Blk.ren, h1, this]
  · rcases from' h1 h3 with ⟨a1, _, a3, a4⟩ | ⟨p1, j1, k1, a1, a2, _, rfl, a3, a4⟩ <;> rcases from' h2 h4 with ⟨b1, _, b3, b4⟩ | ⟨p2, j2, k2, b1, b2, _, rfl, b3, b4⟩
    · exact hs.dis i i' _ _ q q' hne a3 b3 a4 b4 h5 h6
    · exact hs.dis i (st0.length + j2) _ _ q q' (by omega) a3 b3 a4 b4 h5 h6
    · exact hs.dis (st0.length + j1) i' _ _ q q' (by omega) a3 b3 a4 b4 h5 h6
    · refine hs.dis (st0.length + j1) (st0.length + j2) _ _ q q' (fun e => ?_) a3 b3 a4 b4 h5 h6
      have e : j1 = j2 := by omega
      subst e
      have hp1 := getElem?_lt a2
      have hp2 := getElem?_lt b2
      rw [List.getElem?_eq_getElem hp1] at a2
      rw [List.getElem?_eq_getElem hp2] at b2
      have : p1 = p2 := (List.getElem_inj hnd).1 ((Option.some.inj a2).trans (Option.some.inj b2).symm)
      omega

attribute [go_sem] V.ren V.ren.all lkR tblR Blk.ren Nat.add_left_cancel_iff Nat.beq_eq_true_eq Nat.add_eq_left Nat.left_eq_add

end Go.VS
