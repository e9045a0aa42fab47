/- The runs of the model's operations, one by one: makes, cuts, builtins. -/
import Derived.Test.YtjklhbmkajabdaaDoorVs6
set_option linter.all false
namespace Go.VS
open Go Go.RowKit

theorem flat_get {α : Type} (L : List α) (p : Nat) : ∀ (n j : Nat), (List.replicate n L).flatten[j]? = if j < n * L.length then L[j % L.length]? else none := by
  intro n
  induction n with
  | zero => intro j; simp
  | succ n ih =>
    intro j
    rw [List.replicate_succ, List.flatten_cons, List.getElem?_append]
    by_cases h : j < L.length
    · rw [if_pos h, if_pos (by rw [Nat.add_mul]; omega), Nat.mod_eq_of_lt h]
    · rw [if_neg h, ih]
      have : (j - L.length) % L.length = j % L.length := by rw [← Nat.mod_eq_sub_mod (by omega)]
      rw [this]
      by_cases h2 : j < (n + 1) * L.length
      · rw [if_pos h2, if_pos (by rw [Nat.add_mul] at h2; omega)]
      · rw [if_neg h2, if_neg (by rw [Nat.add_mul] at h2; omega)]

theorem flat_len {α : Type} (L : List α) (n : Nat) : (List.replicate n L).flatten.length = n * L.length := by simp

theorem grid_get (f : Nat → Nat → V) (sz : Nat) (hsz : 0 < sz) : ∀ (n p : Nat), ((List.range n).flatMap fun i => rng (f i) 0 sz)[p]? = if p < n * sz then some (f (p / sz) (p % sz)) else none := by
  intro n
  induction n with
  | zero => intro p; simp
  | succ n ih =>
    intro p
    have hlen : ((List.range n).flatMap fun i => rng (f i) 0 sz).length = n * sz := by
      clear ih
      induction n with
      | zero => simp
      | succ n ih => rw [List.range_succ, List.flatMap_append, List.length_append, ih]; simp [rng_len, Nat.add_mul]
    rw [List.range_succ, List.flatMap_append, List.getElem?_append, hlen, ih]
    by_cases h : p < n * sz
    · rw [if_pos h, if_pos h, if_pos (by rw [Nat.add_mul]; omega)]
    · rw [if_neg h]
      simp only [List.flatMap_cons, List.flatMap_nil, List.append_nil, rng_get]
      by_cases h2 : p < (n + 1) * sz
      · have hp : p - n * sz < sz := by rw [Nat.add_mul] at h2; omega
        have e1 : p / sz = n := by
          apply Nat.div_eq_of_lt_le
          · rw [Nat.mul_comm] ; rw [Nat.mul_comm]; omega
          · exact h2
        have e2 : p % sz = p - n * sz := by
          have := Nat.div_add_mod p sz
          rw [e1, Nat.mul_comm] at this; omega
        rw [if_pos hp, if_pos h2, e1, e2]
        simp
      · rw [if_neg (by rw [Nat.add_mul] at h2; omega), if_neg h2]

section ops
variable {P : Program} {st : Store} {μ : List Mu} {w : World} {R : Nat → Prop} {ρ : Env} {a : Act} {K : V → Store → Prop}

/-- A new row of the call's own. -/
theorem row_ok (hs : SOk st μ w R) {cells : List V} {arr : Array Value} {ty sz n cap : Nat} (hl : cells.length ≤ arr.size) (hn : n * sz ≤ cells.length) (hnc : n ≤ cap) (hcap : cap * sz ≤ arr.size)
    (hc : ∀ (j : Nat) c, cells[j]? = some c → ∃ v, arr[j]? = some v ∧ one v ∧ RepV st μ w R c v) :
    SOk (st ++ [⟨2, 0, sz, cells⟩]) (μ ++ [⟨w.heap.size, 0, arr.size⟩]) (w.alloc (.cells arr ty)) R ∧ Ext st μ w R (st ++ [⟨2, 0, sz, cells⟩]) (μ ++ [⟨w.heap.size, 0, arr.size⟩]) (w.alloc (.cells arr ty)) R ∧
    RepV (st ++ [⟨2, 0, sz, cells⟩]) (μ ++ [⟨w.heap.size, 0, arr.size⟩]) (w.alloc (.cells arr ty)) R (.ref st.length 0 0 n) (.slice (some ⟨w.heap.size, 0, none⟩) n cap) := by
  obtain ⟨h1, h2⟩ := push_ok hs 0 sz 0 cells arr ty (by omega) (fun j c hj => by simpa using hc j c hj)
  refine ⟨h1, h2, .ref _ _ _ _ ⟨2, 0, sz, cells⟩ ⟨w.heap.size, 0, arr.size⟩ _ (by simp) (by rw [← hs.len]; simp) (Nat.le_refl _) trivial (fun _ _ => .inr (.inl ⟨rfl, by simpa using hn, cap, by simp, hnc, by simpa using hcap⟩))⟩

theorem done_ms (hs : SOk st μ w R) (he : REnv st μ w R ρ a.tmps) {o : Oper} {t : Nat} {x y : Operand} (ho : o.op = .makeSlice t x y) (h : opW P ρ st (.ms t (.of x) (.of y)) K) : Done st μ w R ((execOp a.eval o).run P w) K := by
  simp only [opW] at h
  have hx := ev_rep hs he x
  have hy := ev_rep hs he y
  split at h
  · rename_i e hel
    have hu := el_inv hel
    split at h
    · rename_i sz by' ag z hi
      split at h
      · rename_i l c hl hc
        rw [hl] at hx; rw [hc] at hy
        obtain ⟨hz, hsz, hones, h0, h1, h2, h3, h⟩ := h
        obtain ⟨i, hr, hi1, hi2, zv, hzv, hzl⟩ := run_info w hi
        obtain ⟨zv', hzr, hzl'⟩ := run_zero w hi
        have wl : IntKind.i64.wrap l = l := by simp [IntKind.wrap, IntKind.signed, IntKind.bits]; omega
        have wc : IntKind.i64.wrap c = c := by simp [IntKind.wrap, IntKind.signed, IntKind.bits]; omega
        have hby : (by' : Int) * c ≤ 140737488355328 := by rw [Int.mul_comm]; exact h3
        have hzs : zv'.cells.size = sz := by rw [← hz, ← hzl']; simp
        by_cases hn : c.toNat * sz = 0
        · have hc0 : c.toNat = 0 := by
            rcases Nat.mul_eq_zero.1 hn with h' | h'
            · exact h'
            · omega
          obtain ⟨k1, k2, k3⟩ := row_ok (ty := e) (cells := (List.replicate l.toNat (z.map V.x)).flatten) (arr := #[]) (sz := sz) (n := l.toNat) (cap := c.toNat) hs (by rw [flat_len, show l.toNat = 0 by omega]; simp) (by rw [flat_len]; simp [hz]) (by omega) (by simp [hn])
            (fun j d hj => by rw [flat_get _ 0, if_neg (by rw [show l.toNat = 0 by omega]; simp)] at hj; cases hj)
          refine ⟨_, _, _, _, _, _, .inl ?_, k2, k1, k3, h⟩
          simp only [execOp, ho, Instr.makeSlice, hx.x_inv, hy.x_inv, Sem.run_bind, run_und w hu, Result.andThen_ok, asInt, asIntOf, Sem.run_pure, hr, wl, wc, hi2]
          rw [if_neg (by simp; omega)]
          simp [run_size w hi, hn, newRow, show Array.range 0 = #[] from by simp]
        · have hget : ∀ p, p < c.toNat * sz → (zv'.cells[p % zv'.cells.size]!) = zv'.cells.toList.getD (p % sz) default := fun p hp => by
            rw [hzs, Array.getElem!_eq_getD, Array.getD_eq_getD_getElem?, List.getD_eq_getElem?_getD, Array.getElem?_toList]
          obtain ⟨k1, k2, k3⟩ := row_ok (ty := e) (cells := (List.replicate l.toNat (z.map V.x)).flatten) (arr := (Array.range (c.toNat * sz)).map (zv'.cells[· % zv'.cells.size]!)) (sz := sz) (n := l.toNat) (cap := c.toNat) hs
            (by rw [flat_len]; simp [hz]; exact Nat.mul_le_mul_right _ (by omega)) (by rw [flat_len]; simp [hz]) (by omega) (by simp)
            (fun j d hj => by
              rw [flat_get _ 0] at hj
              split at hj
              · rename_i hlt
                simp only [List.length_map, hz] at hlt hj
                have hjc : j < c.toNat * sz := Nat.lt_of_lt_of_le hlt (Nat.mul_le_mul_right _ (by omega))
                have hm : j % sz < z.length := by rw [hz]; exact Nat.mod_lt _ hsz
                rw [List.getElem?_map, List.getElem?_eq_getElem hm] at hj
                cases hj
                refine ⟨z[j % sz], ?_, one_x (ones_get hones (j % sz) _ (by rw [List.getElem?_map, List.getElem?_eq_getElem hm]; rfl)), .imm (.x _)⟩
                simp only [Array.getElem?_map, Array.getElem?_range, hjc, if_true, Option.map_some]
                rw [hget j hjc, hzl', List.getD_eq_getElem?_getD, List.getElem?_eq_getElem hm]
                rfl
              · cases hj)
          refine ⟨_, _, _, _, _, _, .inl ?_, k2, k1, k3, h⟩
          simp only [execOp, ho, Instr.makeSlice, hx.x_inv, hy.x_inv, Sem.run_bind, run_und w hu, Result.andThen_ok, asInt, asIntOf, Sem.run_pure, hr, wl, wc, hi2]
          rw [if_neg (by simp; omega)]
          simp [run_size w hi, hn, newRow, hzr]
      · exact h.elim
    · exact h.elim
  · exact h.elim


theorem bounds_run {isS : Bool} {len cap : Nat} {lo hi : Option Value} {l h : Nat} (hlo : lo = none ∧ l = 0 ∨ ∃ k, lo = some (.int k (l : Int))) (hhi : hi = none ∧ h = len ∨ ∃ k, hi = some (.int k (h : Int))) (h1 : l ≤ h) (h2 : h ≤ cap) :
    (Instr.sliceBounds isS len cap lo hi none).run P w = .ok (l, h, cap) w := by
  have e1 : ∀ k, ((l : Int) ≤ (h : Int)) := fun _ => by omega
  rcases hlo with ⟨rfl, rfl⟩ | ⟨k, rfl⟩ <;> rcases hhi with ⟨rfl, rfl⟩ | ⟨k', rfl⟩ <;>
    simp [Instr.sliceBounds, Instr.sliceBound, asIntOf, h1, h2]

theorem bd_of {d : Nat} {x : Option Operand} {n : Int} (hs : SOk st μ w R) (he : REnv st μ w R ρ a.tmps)
    (h : bdW (d : Int) (x.map (fun y => ev ρ (A.of y))) = some n) :
    (x.map a.eval = none ∧ n = d) ∨ ∃ k, x.map a.eval = some (.int k n) := by
  unfold bdW at h
  cases x with
  | none => simp at h; exact .inl ⟨rfl, h.symm⟩
  | some y =>
    simp only [Option.map_some] at h
    have hy := ev_rep hs he y
    split at h
    · rename_i e; cases e
    · rename_i k m e
      simp only [Option.some.injEq] at e h
      rw [e] at hy
      subst h
      exact .inr ⟨k, by simp [hy.x_inv]⟩
    · cases h

theorem add_addr' (b o n : Nat) : (⟨b, o, none⟩ : Addr).add n = ⟨b, o + n, none⟩ := add_addr b o n

theorem done_sl (hs : SOk st μ w R) (he : REnv st μ w R ρ a.tmps) {o : Oper} {t : Nat} {x : Operand} {lo hi : Option Operand} (ho : o.op = .slice t x lo hi none)
    (h : opW P ρ st (.sl t (.of x) (lo.map .of) (hi.map .of)) K) : Done st μ w R ((execOp a.eval o).run P w) K := by
  simp only [opW, slW, Option.map_map] at h
  have hx := ev_rep hs he x
  split at h
  · rename_i s hv
    rw [hv] at hx
    obtain ⟨hu, h⟩ := h
    split at h
    · rename_i l hh hl hhi
      obtain ⟨h0, h1, h2, h⟩ := h
      have b1 := bd_of (d := 0) hs he hl
      have b2 := bd_of (d := s.size) hs he hhi
      obtain ⟨l, rfl⟩ := Int.eq_ofNat_of_zero_le h0
      obtain ⟨hh, rfl⟩ := Int.eq_ofNat_of_zero_le (Int.le_trans h0 h1)
      refine Done.here hs (val := .string (s.extract l hh)) ?_ (.imm (.x _)) h
      have := bounds_run (P := P) (w := w) (isS := false) (len := s.size) (cap := s.size) (lo := lo.map a.eval) (hi := hi.map a.eval) (l := l) (h := hh)
        (b1.imp (fun ⟨p, q⟩ => ⟨p, by omega⟩) id) (b2.imp (fun ⟨p, q⟩ => ⟨p, by omega⟩) id) (by omega) (by omega)
      simp [execOp, ho, Instr.sliceAt, run_und w hu, hx.x_inv, Instr.slice, this]
    · exact h.elim
  · rename_i n sz f hv
    rw [hv] at hx
    obtain ⟨hsz, h⟩ := h
    cases hel : el P t with
    | none => simp [hel] at hsz
    | some e =>
      have hu := el_inv hel
      simp only [hel, Option.bind_some] at hsz
      cases hin : inf P e with
      | none => simp [hin] at hsz
      | some q =>
        obtain ⟨sz', by', ag, z⟩ := q
        simp only [hin, Option.map_some, Option.some.injEq] at hsz
        subst hsz
        split at h
        · rename_i l hh hl hhi
          obtain ⟨h0, h1, h2, h⟩ := h
          have b1 := bd_of (d := 0) hs he hl
          have b2 := bd_of (d := n) hs he hhi
          obtain ⟨l, rfl⟩ := Int.eq_ofNat_of_zero_le h0
          obtain ⟨hh, rfl⟩ := Int.eq_ofNat_of_zero_le (Int.le_trans h0 h1)
          simp only [Int.toNat_natCast, show ((hh : Int) - (l : Int)).toNat = hh - l by omega] at h
          rcases hx.sl_inv.sl_inv with ⟨rfl, e'⟩ | ⟨b, off, cap, g, hR, hc, hg, hf, e'⟩
          · obtain rfl : hh = 0 := by omega
            obtain rfl : l = 0 := by omega
            have := bounds_run (P := P) (w := w) (isS := true) (len := 0) (cap := 0) (lo := lo.map a.eval) (hi := hi.map a.eval) (l := 0) (h := 0)
              (b1.imp (fun ⟨p, q⟩ => ⟨p, by omega⟩) id) (b2.imp (fun ⟨p, q⟩ => ⟨p, by omega⟩) id) (by omega) (by omega)
            refine Done.here hs (val := .slice none 0 0) ?_ (.imm (.nil _ _)) h
            simp [execOp, ho, Instr.sliceAt, run_und w hu, e', Instr.slice, this, run_size w hin]
          · have := bounds_run (P := P) (w := w) (isS := true) (len := n) (cap := cap) (lo := lo.map a.eval) (hi := hi.map a.eval) (l := l) (h := hh)
              (b1.imp (fun ⟨p, q⟩ => ⟨p, by omega⟩) id) (b2.imp (fun ⟨p, q⟩ => ⟨p, by omega⟩) id) (by omega) (by omega)
            by_cases hcl : cap = l
            · subst hcl
              refine Done.here hs (val := .slice (some ⟨b, off, none⟩) (hh - cap) (cap - cap)) ?_ (.imm (RepI.cut (.sl _ _ _ b off _ (fun i j => g (cap + i) j) (fun h' => hR (by omega)) (by omega) (fun i j hi _ => by omega) (fun i j hi _ => by omega)))) h
              simp [execOp, ho, Instr.sliceAt, run_und w hu, e', Instr.slice, this, run_size w hin]
            · refine Done.here hs (val := .slice (some ⟨b, off + l * sz', none⟩) (hh - l) (cap - l)) ?_ (.imm (RepI.cut (.sl _ _ _ b _ _ (fun i j => g (l + i) j) (fun h' => hR (by omega)) (by omega) (fun i j hi hj => ?_) (fun i j hi hj => hf (l + i) j (by omega) hj)))) h
              · simp [execOp, ho, Instr.sliceAt, run_und w hu, e', Instr.slice, this, run_size w hin, hcl, add_addr]
              · rw [show off + l * sz' + i * sz' + j = off + (l + i) * sz' + j by rw [Nat.add_mul]; omega]
                exact hg (l + i) j (by omega) hj
        · exact h.elim
  · rename_i hv
    rw [hv] at hx
    obtain ⟨hsz, h⟩ := h
    cases hel : el P t with
    | none => simp [hel] at hsz
    | some e =>
      have hu := el_inv hel
      simp only [hel, Option.bind_some] at hsz
      obtain ⟨⟨sz', by', ag, z⟩, hin⟩ := Option.isSome_iff_exists.1 hsz
      split at h
      · rename_i l hh hl hhi
        obtain ⟨rfl, rfl, h⟩ := h
        have b1 := bd_of (d := 0) hs he hl
        have b2 := bd_of (d := 0) hs he hhi
        have := bounds_run (P := P) (w := w) (isS := true) (len := 0) (cap := 0) (lo := lo.map a.eval) (hi := hi.map a.eval) (l := 0) (h := 0)
          (b1.imp (fun ⟨p, q⟩ => ⟨p, rfl⟩) id) (b2.imp (fun ⟨p, q⟩ => ⟨p, rfl⟩) id) (by omega) (by omega)
        refine Done.here hs (val := .slice none 0 0) ?_ (.imm (.x _)) (by rw [hv] at h; exact h)
        simp [execOp, ho, Instr.sliceAt, run_und w hu, hx.x_inv, Instr.slice, this, run_size w hin]
      · exact h.elim
  · rename_i jd ver off n hv
    rw [hv] at hx
    obtain ⟨k, hk, hver, hk0, hsz, h⟩ := getB_inv h
    obtain ⟨mu, hm, hr⟩ := hx.ref_get hk hver hk0
    cases hel : el P t with
    | none => simp [hel] at hsz
    | some e =>
      have hu := el_inv hel
      simp only [hel, Option.bind_some] at hsz
      cases hin : inf P e with
      | none => simp [hin] at hsz
      | some q =>
        obtain ⟨sz', by', ag, z⟩ := q
        simp only [hin, Option.map_some, Option.some.injEq] at hsz
        subst hsz
        split at h
        · rename_i l hh hl hhi
          obtain ⟨h0, h1, h2', h⟩ := h
          have b1 := bd_of (d := 0) hs he hl
          have b2 := bd_of (d := n) hs he hhi
          obtain ⟨l, rfl⟩ := Int.eq_ofNat_of_zero_le h0
          obtain ⟨hh, rfl⟩ := Int.eq_ofNat_of_zero_le (Int.le_trans h0 h1)
          simp only [Int.toNat_natCast, show ((hh : Int) - (l : Int)).toNat = hh - l by omega] at h
          rcases hr with ⟨h1', rfl, rfl, e'⟩ | ⟨h2, hfit, cap, e', hc, hcap⟩ | ⟨h2, rfl, hof, ad, e'⟩
          · obtain rfl : hh = 0 := by omega
            obtain rfl : l = 0 := by omega
            have := bounds_run (P := P) (w := w) (isS := true) (len := 0) (cap := 0) (lo := lo.map a.eval) (hi := hi.map a.eval) (l := 0) (h := 0)
              (b1.imp (fun ⟨p, q⟩ => ⟨p, by omega⟩) id) (b2.imp (fun ⟨p, q⟩ => ⟨p, by omega⟩) id) (by omega) (by omega)
            refine Done.here hs (val := .slice none 0 0) ?_ (.ref jd ver _ _ k mu _ hk hm (by omega) trivial (fun _ _ => .inl ⟨h1', by omega, by omega, rfl⟩)) h
            simp [execOp, ho, Instr.sliceAt, run_und w hu, e', Instr.slice, this, run_size w hin]
          · have := bounds_run (P := P) (w := w) (isS := true) (len := n) (cap := cap) (lo := lo.map a.eval) (hi := hi.map a.eval) (l := l) (h := hh)
              (b1.imp (fun ⟨p, q⟩ => ⟨p, by omega⟩) id) (b2.imp (fun ⟨p, q⟩ => ⟨p, by omega⟩) id) (by omega) (by omega)
            have hle : (off + l + (hh - l)) * k.sz ≤ k.cells.length := Nat.le_trans (Nat.mul_le_mul_right _ (by omega)) hfit
            by_cases hcl : cap = l
            · subst hcl
              have hle2 : (off + cap) * k.sz ≤ k.cells.length := Nat.le_trans (Nat.mul_le_mul_right _ (by omega)) hle
              refine Done.here hs (val := .slice (some ⟨mu.b, mu.base + off * k.sz, none⟩) 0 0) ?_ (.ref jd ver _ _ k mu _ hk hm (by omega) trivial (fun _ _ => .inr (.inr ⟨h2, by omega, hle2, (_, _), rfl⟩))) h
              simp [execOp, ho, Instr.sliceAt, run_und w hu, e', Instr.slice, this, run_size w hin]
              omega
            · refine Done.here hs (val := .slice (some ⟨mu.b, mu.base + (off + l) * k.sz, none⟩) (hh - l) (cap - l)) ?_ (.ref jd ver _ _ k mu _ hk hm (by omega) trivial (fun _ _ => .inr (.inl ⟨h2, hle, cap - l, rfl, by omega, by
                rw [show off + l + (cap - l) = off + cap by omega]; exact hcap⟩))) h
              simp [execOp, ho, Instr.sliceAt, run_und w hu, e', Instr.slice, this, run_size w hin, hcl, add_addr, Nat.add_mul, Nat.add_assoc]
          · obtain rfl : hh = 0 := by omega
            obtain rfl : l = 0 := by omega
            have := bounds_run (P := P) (w := w) (isS := true) (len := 0) (cap := 0) (lo := lo.map a.eval) (hi := hi.map a.eval) (l := 0) (h := 0)
              (b1.imp (fun ⟨p, q⟩ => ⟨p, by omega⟩) id) (b2.imp (fun ⟨p, q⟩ => ⟨p, by omega⟩) id) (by omega) (by omega)
            refine Done.here hs (val := .slice (some ⟨ad.1, ad.2, none⟩) 0 0) ?_ (.ref jd ver _ _ k mu _ hk hm (by omega) trivial (fun _ _ => .inr (.inr ⟨h2, by omega, by simpa using hof, ad, rfl⟩))) h
            simp [execOp, ho, Instr.sliceAt, run_und w hu, e', Instr.slice, this, run_size w hin]
        · exact h.elim
  · exact h.elim

theorem done_len (hs : SOk st μ w R) {t : Nat} {x : Operand} {ty : TypeId} (he : REnv st μ w R ρ a.tmps) (h : lenW P st t (ev ρ (A.of x)) fun v => K v st) :
    ∃ val c, (Builtin.len_ #[t] ty #[a.eval x]).run P w = .ok val w ∧ RepV st μ w R c val ∧ K c st := by
  have hx := ev_rep hs he x
  unfold lenW at h
  split at h
  · rename_i s hv
    rw [hv] at hx
    exact ⟨.int .i64 s.size, _, by simp [Builtin.len_, run_und w h.1, hx.x_inv, goInt], .imm (.x _), h.2⟩
  · rename_i hv
    rw [hv] at hx
    obtain ⟨e, hel⟩ := Option.isSome_iff_exists.1 h.1
    exact ⟨.int .i64 0, _, by simp [Builtin.len_, run_und w (el_inv hel), hx.x_inv, goInt], .imm (.x _), h.2⟩
  · rename_i n sz f hv
    rw [hv] at hx
    obtain ⟨e, hel⟩ := Option.isSome_iff_exists.1 h.1
    refine ⟨.int .i64 n, _, ?_, .imm (.x _), h.2⟩
    rcases hx.sl_inv.sl_inv with ⟨rfl, e'⟩ | ⟨b, off, cap, g, hR, hc, hg, hf, e'⟩ <;> simp [Builtin.len_, run_und w (el_inv hel), e', goInt]
  · rename_i id ver off n hv
    rw [hv] at hx
    obtain ⟨hel, h⟩ := h
    obtain ⟨e, hel⟩ := Option.isSome_iff_exists.1 hel
    obtain ⟨k, hk, hver, hk0, h⟩ := getB_inv h
    obtain ⟨mu, hm, hr⟩ := hx.ref_get hk hver hk0
    refine ⟨.int .i64 n, _, ?_, .imm (.x _), h⟩
    rcases hr with ⟨_, _, rfl, e'⟩ | ⟨_, hfit, cap, e', hc, hcap⟩ | ⟨_, rfl, _, ad, e'⟩ <;> simp [Builtin.len_, run_und w (el_inv hel), e', goInt]
  · exact h.elim

end ops

end Go.VS
