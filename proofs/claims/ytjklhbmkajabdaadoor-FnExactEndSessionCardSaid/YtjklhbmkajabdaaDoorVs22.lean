/- Ends of contracts: nil slices as empty blocks of the call's own. -/
import Derived.Test.YtjklhbmkajabdaaDoorVs21
set_option linter.all false
namespace Go.VS
open Go Go.RowKit

/-- c' may be said in place of c. -/
def Alt (st : Store) (c c' : V) : Prop := ∀ μ w R v, SOk st μ w R → RepV st μ w R c v → RepV st μ w R c' v
def AltA (st : Store) : List V → List V → Prop
  | [], [] => True
  | c :: r, c' :: r' => Alt st c c' ∧ AltA st r r'
  | _, _ => False
theorem AltA.nil {st : Store} : AltA st [] [] := trivial
theorem AltA.cons {st : Store} {c c' : V} {r r' : List V} (h : Alt st c c') (hr : AltA st r r') : AltA st (c :: r) (c' :: r') := ⟨h, hr⟩
theorem AltA.len {st : Store} : ∀ {cs cs' : List V}, AltA st cs cs' → cs'.length = cs.length
  | [], [], _ => rfl
  | _ :: _, _ :: _, h => by simp only [List.length_cons]; rw [AltA.len h.2]
  | [], _ :: _, h => h.elim
  | _ :: _, [], h => h.elim
theorem AltA.get {st : Store} : ∀ {cs cs' : List V}, AltA st cs cs' → ∀ (k : Nat) c c', cs[k]? = some c → cs'[k]? = some c' → Alt st c c'
  | [], [], _, k, c, c', h, _ => by simp at h
  | x :: r, y :: r', h, k, c, c', hc, hc' => by
    cases k with
    | zero => simp at hc hc'; subst hc hc'; exact h.1
    | succ k => exact AltA.get h.2 k c c' (by simpa using hc) (by simpa using hc')
  | [], _ :: _, h, _, _, _, _, _ => h.elim
  | _ :: _, [], h, _, _, _, _, _ => h.elim
theorem Alt.refl {st : Store} {c : V} : Alt st c c := fun _ _ _ _ _ h => h
theorem Alt.tup {st : Store} {cs cs' : List V} (h : AltA st cs cs') : Alt st (.tup cs) (.tup cs') := fun μ w R v hs hr => by
  obtain ⟨vs, rfl, h1, h2⟩ := hr.parts_tup
  refine .tup cs' vs (h.len.trans h1) fun k c v hc hv => ?_
  have hk : k < cs.length := by have := getElem?_lt hc; have := h.len; omega
  exact h.get k _ c (List.getElem?_eq_getElem hk) hc μ w R v hs (h2 k _ v (List.getElem?_eq_getElem hk) hv)
theorem Alt.agg {st : Store} {cs cs' : List V} (h : AltA st cs cs') : Alt st (.agg cs) (.agg cs') := fun μ w R v hs hr => by
  obtain ⟨vs, rfl, h1, h2⟩ := hr.parts_agg
  refine .agg cs' vs (h.len.trans h1) fun k c v hc hv => ?_
  have hk : k < cs.length := by have := getElem?_lt hc; have := h.len; omega
  exact h.get k _ c (List.getElem?_eq_getElem hk) hc μ w R v hs (h2 k _ v (List.getElem?_eq_getElem hk) hv)
theorem Alt.nil {st : Store} {id sz : Nat} (hk : st[id]? = some ⟨1, 0, sz, []⟩) : Alt st (.x (.slice none 0 0)) (.ref id 0 0 0) := fun μ w R v hs hr => by
  obtain ⟨m, hm⟩ : ∃ m, μ[id]? = some m := ⟨_, List.getElem?_eq_getElem (by rw [hs.len]; exact getElem?_lt hk)⟩
  rw [hr.x_inv]
  exact .ref id 0 0 0 _ m _ hk hm (Nat.le_refl _) trivial (fun _ _ => .inl ⟨rfl, rfl, rfl, rfl⟩)

theorem Fin.alt {st0 st : Store} {Q : V → Store → Prop} {r r' : V} (ha : Alt st r r') (h : Fin st0 Q r' st) : Fin st0 Q r st :=
  fun μ0 w0 R0 μ w R val hs0 hx hs hr => h μ0 w0 R0 μ w R val hs0 hx hs (ha μ w R val hs hr)

theorem Fin.pushN {st0 st : Store} {Q : V → Store → Prop} {r : V} (sz : Nat) (h : Fin st0 Q r (st ++ [⟨1, 0, sz, []⟩])) : Fin st0 Q r st := fun μ0 w0 R0 μ w R val hs0 hx hs hr => by
  obtain ⟨f1, f2⟩ := push_nil_ok hs ⟨1, 0, sz, []⟩ (.inr ⟨rfl, rfl⟩)
  exact h μ0 w0 R0 _ w R val hs0 (hx.trans f2) f1 (hr.ext hs f2)

theorem Fin.trans {st0 st : Store} {Q : V → Store → Prop} {r : V} (h : Fin st0 (fun r' st' => Fin st0 Q r' st') r st) : Fin st0 Q r st := fun μ0 w0 R0 μ w R val hs0 hx hs hr => by
  obtain ⟨r1, st1, μ1, R1, h1, h2, h3, h4⟩ := h μ0 w0 R0 μ w R val hs0 hx hs hr
  exact h1 μ0 w0 R0 μ1 w R1 val hs0 h2 h3 h4

/-- The end of a contract may be taken for another one. -/
theorem Spec.fin {P : Program} {f : Nat} {args : List V} {st : Store} {K : V → Store → Prop} (h : Spec P f args st fun r st' => Fin st K r st') : Spec P f args st K :=
  ⟨h.1, fun μ w R vals hs hl hv => (h.2 μ w R vals hs hl hv).mono fun e w' ⟨r, val, st', μ', R', h1, h2, h3, h4, h5⟩ => by
    obtain ⟨r1, st1, μ1, R1, g1, g2, g3, g4⟩ := h5 μ w R μ' w' R' val hs h2 h3 h4
    exact ⟨r1, val, st1, μ1, R1, h1, g2, g3, g4, g1⟩⟩

end Go.VS
