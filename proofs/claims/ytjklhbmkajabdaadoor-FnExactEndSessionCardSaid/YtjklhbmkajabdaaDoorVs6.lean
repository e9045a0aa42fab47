/- The runs of the model's operations, one by one. -/
import Derived.Test.YtjklhbmkajabdaaDoorVs5
set_option linter.all false
namespace Go.VS
open Go Go.RowKit

section ops
variable {P : Program} {st : Store} {μ : List Mu} {w : World} {R : Nat → Prop} {ρ : Env} {a : Act} {K : V → Store → Prop}

theorem done_nc (hs : SOk st μ w R) (he : REnv st μ w R ρ a.tmps) {o : Oper} {x : Operand} (ho : o.op = .nilCheck x) (h : opW P ρ st (.nc (.of x)) K) : Done st μ w R ((execOp a.eval o).run P w) K := by
  simp only [opW] at h
  have hx := ev_rep hs he x
  split at h
  · rename_i m sz f i j hv
    rw [hv] at hx
    obtain ⟨b, off, g, _, _, _, _, e⟩ := hx.ip_inv
    exact Done.here hs (val := a.eval x) (by simp [execOp, ho, e]) hx h
  · rename_i id ver off hv
    rw [hv] at hx
    obtain ⟨k, hk, hver, h0, h⟩ := getB_inv h
    obtain ⟨mu, hm, h2, e⟩ := hx.ptr_get hk hver h0
    exact Done.here hs (val := a.eval x) (by simp [execOp, ho, e]) hx h
  · rename_i g cs hv
    rw [hv] at hx
    obtain ⟨vs, _, _, e⟩ := hx.fn_inv
    exact Done.here hs (val := a.eval x) (by simp [execOp, ho, e]) hx h
  · exact h.elim

theorem guard_scalar {op : BinOp} {t : TypeId} {x y : Operand} {u v : Value} (h1 : ∀ cs, u ≠ .agg cs) (h2 : u ≠ .nilIface) : (eqGuard op t x y u v).run P w = .ok () w := by
  unfold eqGuard
  cases op <;> simp <;> (cases u <;> cases v <;> simp_all)

theorem equal_bool {t : TypeId} (h : P.underlying t = some .bool) (p q : Bool) : (Op.equal t (.bool p) (.bool q)).run P w = .ok (p == q) w := by
  show Sem.run P (Op.equalIn (9999 + 1) t _ _) w = _
  rw [Op.equalIn]
  simp [run_und w h]

theorem equal_slice {t e : TypeId} (h : P.underlying t = some (.slice e)) (ad : Option Addr) (n c : Nat) : (Op.equal t (.slice ad n c) (.slice none 0 0)).run P w = .ok ad.isNone w := by
  show Sem.run P (Op.equalIn (9999 + 1) t _ _) w = _
  rw [Op.equalIn]
  cases ad <;> simp [run_und w h]

theorem nil_run {op : BinOp} {t e : Nat} (h : P.underlying t = some (.slice e)) {ad : Option Addr} {n c : Nat} {Q : Value → Prop} (hq : nilEq op ad.isNone Q) : ∃ v, (binOp op t (.slice ad n c) (.slice none 0 0)).run P w = .ok v w ∧ Q v := by
  unfold nilEq at hq
  split at hq
  · exact ⟨_, by simp [binOp, equal_slice h], hq⟩
  · exact ⟨_, by simp [binOp, equal_slice h], hq⟩
  · exact hq.elim

theorem bin_run {op : BinOp} {t : Nat} {x y : Value} {Q : Value → Prop} (h : binW P op t x y Q) : ∃ v, (binOp op t x y).run P w = .ok v w ∧ Q v ∧ (∀ cs, x ≠ .agg cs) ∧ x ≠ .nilIface := by
  unfold binW at h
  split at h
  case h_1 k n b' b =>
    obtain ⟨hb, h⟩ := h
    exact ⟨_, by simp [binOp, Op.shift, Int.not_lt.mpr hb], h, by simp, by simp⟩
  case h_2 k n b' b =>
    obtain ⟨hb, h⟩ := h
    exact ⟨_, by simp [binOp, Op.shift, Int.not_lt.mpr hb], h, by simp, by simp⟩
  case h_3 => obtain ⟨rfl, h⟩ := h; exact ⟨_, by simp [binOp, Op.intArith], h, by simp, by simp⟩
  case h_4 => obtain ⟨rfl, h⟩ := h; exact ⟨_, by simp [binOp, Op.intArith], h, by simp, by simp⟩
  case h_5 => obtain ⟨rfl, h⟩ := h; exact ⟨_, by simp [binOp, Op.intArith], h, by simp, by simp⟩
  case h_6 => obtain ⟨rfl, hb, h⟩ := h; exact ⟨_, by simp [binOp, Op.intDiv, hb], h, by simp, by simp⟩
  case h_7 => obtain ⟨rfl, hb, h⟩ := h; exact ⟨_, by simp [binOp, Op.intDiv, hb], h, by simp, by simp⟩
  case h_8 => obtain ⟨rfl, h⟩ := h; exact ⟨_, by simp only [binOp, ne_eq, not_true, if_false, Op.intBits]; rfl, h, by simp, by simp⟩
  case h_9 => obtain ⟨rfl, h⟩ := h; exact ⟨_, by simp only [binOp, ne_eq, not_true, if_false, Op.intBits]; rfl, h, by simp, by simp⟩
  case h_10 => obtain ⟨rfl, h⟩ := h; exact ⟨_, by simp only [binOp, ne_eq, not_true, if_false, Op.intBits]; rfl, h, by simp, by simp⟩
  case h_11 => obtain ⟨rfl, h⟩ := h; exact ⟨_, by simp only [binOp, ne_eq, not_true, if_false, Op.intBits]; rfl, h, by simp, by simp⟩
  case h_12 => obtain ⟨rfl, h⟩ := h; exact ⟨_, by simp [binOp, Op.intCmp], h, by simp, by simp⟩
  case h_13 => obtain ⟨rfl, h⟩ := h; exact ⟨_, by simp [binOp, Op.intCmp], h, by simp, by simp⟩
  case h_14 => obtain ⟨rfl, h⟩ := h; exact ⟨_, by simp [binOp, Op.intCmp], h, by simp, by simp⟩
  case h_15 => obtain ⟨rfl, h⟩ := h; exact ⟨_, by simp [binOp, Op.intCmp], h, by simp, by simp⟩
  case h_16 => obtain ⟨rfl, h⟩ := h; exact ⟨_, by simp [binOp, Op.intCmp], h, by simp, by simp⟩
  case h_17 => obtain ⟨rfl, h⟩ := h; exact ⟨_, by simp [binOp, Op.intCmp], h, by simp, by simp⟩
  case h_18 s s' =>
    obtain ⟨hb, h⟩ := h
    exact ⟨_, by simp only [binOp, Op.stringOp]; rw [Sem.run_ite, if_neg (by simp [IntKind.max, IntKind.signed, IntKind.bits]; omega)]; rfl, h, by simp, by simp⟩
  case h_19 => exact ⟨_, by simp [binOp, Op.stringOp], h, by simp, by simp⟩
  case h_20 => exact ⟨_, by simp [binOp, Op.stringOp], h, by simp, by simp⟩
  case h_21 => obtain ⟨ht, h⟩ := h; exact ⟨_, by simp [binOp, equal_bool ht], h, by simp, by simp⟩
  case h_22 => obtain ⟨ht, h⟩ := h; exact ⟨_, by simp [binOp, equal_bool ht], h, by simp, by simp⟩
  case h_23 =>
    obtain ⟨ht, h⟩ := h
    obtain ⟨e, he⟩ := Option.isSome_iff_exists.1 ht
    exact ⟨_, by simp [binOp, equal_slice (el_inv he)], h, by simp, by simp⟩
  case h_24 =>
    obtain ⟨ht, h⟩ := h
    obtain ⟨e, he⟩ := Option.isSome_iff_exists.1 ht
    exact ⟨_, by simp [binOp, equal_slice (el_inv he)], h, by simp, by simp⟩
  case h_25 => exact h.elim

theorem done_bi (hs : SOk st μ w R) (he : REnv st μ w R ρ a.tmps) {o : Oper} {op : BinOp} {t t' : Nat} {x y : Operand} (ho : o.op = .binOp op t x y t') (h : opW P ρ st (.bi op t (.of x) (.of y)) K) : Done st μ w R ((execOp a.eval o).run P w) K := by
  simp only [opW] at h
  split at h
  · rename_i u v hu hv
    have hx := ev_rep hs he x
    have hy := ev_rep hs he y
    rw [hu] at hx; rw [hv] at hy
    obtain ⟨r, hr, hK, hn1, hn2⟩ := bin_run (w := w) h
    refine Done.here hs (val := r) ?_ (.imm (.x _)) hK
    simp [execOp, ho, hx.x_inv, hy.x_inv, guard_scalar hn1 hn2, hr]
  · rename_i n sz f hu hv
    have hx := ev_rep hs he x
    have hy := ev_rep hs he y
    rw [hu] at hx; rw [hv] at hy
    obtain ⟨ht, h⟩ := h
    obtain ⟨e, hel⟩ := Option.isSome_iff_exists.1 ht
    obtain ⟨ad, m, c, hav, hz⟩ : ∃ ad m c, a.eval x = .slice ad m c ∧ (ad.isNone = true → n = 0) := by
      rcases hx.sl_inv.sl_inv with ⟨rfl, e⟩ | ⟨b, off, cap, g, _, _, _, _, e⟩
      · exact ⟨_, _, _, e, fun _ => rfl⟩
      · exact ⟨_, _, _, e, fun h => by simp at h⟩
    obtain ⟨r, hr, hK⟩ := nil_run (w := w) (el_inv hel) (n := m) (c := c) (h ad.isNone hz)
    refine Done.here hs (val := r) ?_ (.imm (.x _)) hK
    simp [execOp, ho, hav, hy.x_inv, guard_scalar (u := .slice ad m c) (by simp) (by simp), hr]
  · rename_i id ver off n hu hv
    have hx := ev_rep hs he x
    have hy := ev_rep hs he y
    rw [hu] at hx; rw [hv] at hy
    obtain ⟨ht, h⟩ := h
    obtain ⟨e, hel⟩ := Option.isSome_iff_exists.1 ht
    obtain ⟨k, hk, hver, hk0, h⟩ := getB_inv h
    obtain ⟨mu, hm, hr⟩ := hx.ref_get hk hver hk0
    obtain ⟨ad, m, c, hav, hz⟩ : ∃ ad m c, a.eval x = .slice ad m c ∧ ad.isNone = (k.kind == 1) := by
      rcases hr with ⟨q, _, _, e⟩ | ⟨q, _, cap, e, _⟩ | ⟨q, _, _, ad, e⟩
      · exact ⟨_, _, _, e, by simp [q]⟩
      · exact ⟨_, _, _, e, by simp [q]⟩
      · exact ⟨_, _, _, e, by simp [q]⟩
    rw [← hz] at h
    obtain ⟨r, hr, hK⟩ := nil_run (w := w) (el_inv hel) (n := m) (c := c) h
    refine Done.here hs (val := r) ?_ (.imm (.x _)) hK
    simp [execOp, ho, hav, hy.x_inv, guard_scalar (u := .slice ad m c) (by simp) (by simp), hr]
  · exact h.elim

theorem done_un (hs : SOk st μ w R) (he : REnv st μ w R ρ a.tmps) {o : Oper} {op : UnOp} {t : Nat} {x : Operand} (ho : o.op = .unOp op t x) (h : opW P ρ st (.un op (.of x)) K) : Done st μ w R ((execOp a.eval o).run P w) K := by
  simp only [opW] at h
  split at h
  · rename_i u hu
    have hx := ev_rep hs he x
    rw [hu] at hx
    unfold unW at h
    split at h
    · exact Done.here hs (val := .bool (! _)) (by simp [execOp, ho, hx.x_inv, Op.unary]) (.imm (.x _)) h
    · exact Done.here hs (by simp only [execOp, ho, hx.x_inv, Op.unary, Op.intArith]; rfl) (.imm (.x _)) h
    · exact h.elim
  · exact h.elim

theorem done_mf (hs : SOk st μ w R) (he : REnv st μ w R ρ a.tmps) {o : Oper} {g : Fn} {cs : Array Operand} (ho : o.op = .makeFunc g #[] cs) (h : opW P ρ st (.mf g (cs.toList.map .of)) K) : Done st μ w R ((execOp a.eval o).run P w) K := by
  refine Done.here hs (val := .func g #[] (cs.toList.map a.eval).toArray) ?_ (.fn g _ _ (by simp [evs_len]) (evs_rep hs he cs.toList)) h
  simp only [execOp, ho, Instr.makeFunc]
  have : (cs.toList.map a.eval).toArray = cs.map a.eval := by apply Array.ext'; simp
  rw [this]; simp

theorem done_fa (hs : SOk st μ w R) (he : REnv st μ w R ρ a.tmps) {o : Oper} {t k : Nat} {x : Operand} (ho : o.op = .fieldAddr t x k) (h : opW P ρ st (.fa t (.of x) k) K) : Done st μ w R ((execOp a.eval o).run P w) K := by
  simp only [opW] at h
  have hx := ev_rep hs he x
  split at h
  · rename_i off ft hf
    obtain ⟨fs, f, hu, hk, rfl, rfl⟩ := fo_inv hf
    split at h
    · rename_i n by' ag z hi
      obtain ⟨hn, h⟩ := h
      split at h
      · rename_i m sz g i j hv
        rw [hv] at hx
        obtain ⟨b, o', g', hR, hi', hg, hff, e⟩ := hx.ip_inv
        refine Done.here hs (val := .pointer (some ⟨b, o' + i * sz + (j + f.offset), none⟩)) ?_ (.imm (.ip _ _ _ _ _ _ _ _ hR hi' hg hff)) h
        simp [execOp, ho, Instr.fieldAt, run_und w hu, hk, Instr.sureAddr, e, fieldPlace, run_size w hi, hn, add_addr, Nat.add_assoc]
      · rename_i id ver off hv
        rw [hv] at hx
        obtain ⟨b, hb, hver, h0, h⟩ := getB_inv h
        obtain ⟨mu, hm, h2, e⟩ := hx.ptr_get hb hver h0
        refine Done.here hs (val := .pointer (some ⟨mu.b, mu.base + (off + f.offset), none⟩)) ?_ (.ptr id ver _ b mu _ hb hm (by omega) trivial (fun _ _ => ⟨h2, rfl⟩)) h
        simp [execOp, ho, Instr.fieldAt, run_und w hu, hk, Instr.sureAddr, e, fieldPlace, run_size w hi, hn, add_addr, Nat.add_assoc]
      · exact h.elim
    · exact h.elim
  · exact h.elim

theorem done_fl (hs : SOk st μ w R) (he : REnv st μ w R ρ a.tmps) {o : Oper} {t k : Nat} {x : Operand} (ho : o.op = .field t x k) (h : opW P ρ st (.fl t (.of x) k) K) : Done st μ w R ((execOp a.eval o).run P w) K := by
  simp only [opW] at h
  have hx := ev_rep hs he x
  split at h
  · rename_i off ft hf
    obtain ⟨fs, f, hu, hk, rfl, rfl⟩ := fo_inv hf
    split at h
    · rename_i n by' ag z hi
      split at h
      · rename_i cs hv
        rw [hv] at hx
        obtain ⟨vs, hl, hh, e⟩ := hx.agg_inv
        cases ag with
        | true =>
          simp only [if_true] at h
          obtain ⟨h1, h⟩ := h
          refine Done.here hs (val := .agg ((vs.drop f.offset).take n).toArray) ?_ (.agg _ _ (by simp; omega) (fun j c v hc hv => ?_)) h
          · simp [execOp, ho, Instr.field, run_und w hu, hk, e, asAgg, part, run_agg w hi, run_size w hi, List.take_drop]
          · have hj : j < n := by have := getElem?_lt hc; simp at this; omega
            rw [List.getElem?_take_of_lt hj, List.getElem?_drop] at hc hv
            exact hh _ c v hc hv
        | false =>
          simp only [Bool.false_eq_true, if_false] at h
          split at h
          · rename_i c hc
            have hlt := getElem?_lt hc
            have hv' : vs[f.offset]? = some vs[f.offset] := List.getElem?_eq_getElem (by omega)
            refine Done.here hs (val := vs[f.offset]) ?_ (hh _ c _ hc hv') h
            simp [execOp, ho, Instr.field, run_und w hu, hk, e, asAgg, part, run_agg w hi, hv']
          · exact h.elim
      · exact h.elim
    · exact h.elim
  · exact h.elim

theorem done_ex (hs : SOk st μ w R) (he : REnv st μ w R ρ a.tmps) {o : Oper} {k : Nat} {x : Operand} (ho : o.op = .extract x k) (h : opW P ρ st (.ex (.of x) k) K) : Done st μ w R ((execOp a.eval o).run P w) K := by
  simp only [opW] at h
  have hx := ev_rep hs he x
  split at h
  · rename_i cs hv
    rw [hv] at hx
    obtain ⟨vs, hl, hh, e⟩ := hx.tup_inv
    split at h
    · rename_i c hc
      have hlt := getElem?_lt hc
      have hv' : vs[k]? = some vs[k] := List.getElem?_eq_getElem (by omega)
      refine Done.here hs (val := vs[k]) ?_ (hh _ c _ hc hv') h
      simp [execOp, ho, e, Instr.extract, hv']
    · exact h.elim
  · exact h.elim

theorem done_ia (hs : SOk st μ w R) (he : REnv st μ w R ρ a.tmps) {o : Oper} {t : Nat} {x i : Operand} (ho : o.op = .indexAddr t x i) (h : opW P ρ st (.ia t (.of x) (.of i)) K) : Done st μ w R ((execOp a.eval o).run P w) K := by
  simp only [opW] at h
  have hx := ev_rep hs he x
  have hi := ev_rep hs he i
  split at h
  · rename_i ik n hn
    rw [hn] at hi
    split at h
    · rename_i e hel
      have hu := el_inv hel
      split at h
      · rename_i sz by' ag z hinf
        split at h
        · rename_i m s f hv
          rw [hv] at hx
          obtain ⟨rfl, h0, h1, h⟩ := h
          rcases hx.sl_inv.sl_inv with ⟨rfl, _⟩ | ⟨b, off, cap, g, hR, hc, hg, hf, e'⟩
          · omega
          · refine Done.here hs (val := .pointer (some ⟨b, off + n.toNat * s + 0, none⟩)) ?_ (.imm (.ip _ _ _ _ _ _ _ g (hR (by omega)) (by omega) hg hf)) h
            simp [execOp, ho, Instr.indexAt, asIntOf, hi.x_inv, run_und w hu, e', h0, h1, run_size w hinf, add_addr]
        · rename_i id ver off m hv
          rw [hv] at hx
          obtain ⟨b, hb, hver, h0, rfl, h3, h4, h⟩ := getB_inv h
          obtain ⟨mu, hm, hr⟩ := hx.ref_get hb hver h0
          rcases hr with ⟨_, _, q, _⟩ | ⟨h2, _, cap, e', _, _⟩ | ⟨_, q, _⟩
          · omega
          · refine Done.here hs (val := .pointer (some ⟨mu.b, mu.base + (off + n.toNat) * b.sz, none⟩)) ?_ (.ptr id ver _ b mu _ hb hm (by omega) trivial (fun _ _ => ⟨h2, rfl⟩)) h
            simp [execOp, ho, Instr.indexAt, asIntOf, hi.x_inv, run_und w hu, e', h3, h4, run_size w hinf, add_addr, Nat.add_mul, Nat.add_assoc]
          · omega
        · exact h.elim
      · exact h.elim
    · split at h
      · rename_i m e har
        have hu := arr_inv har
        split at h
        · rename_i sz by' ag z hinf
          split at h
          · rename_i id ver off hv
            rw [hv] at hx
            obtain ⟨b, hb, hver, h0, h3, h4, h⟩ := getB_inv h
            obtain ⟨mu, hm, h2, e'⟩ := hx.ptr_get hb hver h0
            refine Done.here hs (val := .pointer (some ⟨mu.b, mu.base + (off + n.toNat * sz), none⟩)) ?_ (.ptr id ver _ b mu _ hb hm (by omega) trivial (fun _ _ => ⟨h2, rfl⟩)) h
            simp [execOp, ho, Instr.indexAt, asIntOf, hi.x_inv, run_und w hu, e', Instr.sureAddr, h3, h4, run_size w hinf, add_addr, Nat.add_assoc]
          · rename_i m' sz' g i' j' hv
            rw [hv] at hx
            obtain ⟨h3, h4, h⟩ := h
            obtain ⟨b, o', g', hR, hi', hg, hff, e'⟩ := hx.ip_inv
            refine Done.here hs (val := .pointer (some ⟨b, o' + i' * sz' + (j' + n.toNat * sz), none⟩)) ?_ (.imm (.ip _ _ _ _ _ _ _ _ hR hi' hg hff)) h
            simp [execOp, ho, Instr.indexAt, asIntOf, hi.x_inv, run_und w hu, e', Instr.sureAddr, h3, h4, run_size w hinf, add_addr, Nat.add_assoc]
          · exact h.elim
        · exact h.elim
      · exact h.elim
  · exact h.elim

theorem done_ix (hs : SOk st μ w R) (he : REnv st μ w R ρ a.tmps) {o : Oper} {t : Nat} {x i : Operand} (ho : o.op = .index t x i) (h : opW P ρ st (.ix t (.of x) (.of i)) K) : Done st μ w R ((execOp a.eval o).run P w) K := by
  simp only [opW] at h
  have hx := ev_rep hs he x
  have hi := ev_rep hs he i
  split at h
  · rename_i ik n s hn hv
    rw [hn] at hi; rw [hv] at hx
    obtain ⟨hu, h0, h1, h⟩ := h
    have hlt : n.toNat < s.size := by omega
    refine Done.here hs (val := .int .u8 (s.data.toList.getD n.toNat 0).toNat) ?_ (.imm (.x _)) h
    have hg : s[n.toNat]? = some s[n.toNat] := by simp [hlt]
    have hd : s.data.toList.getD n.toNat 0 = s[n.toNat] := by
      have hlt' : n.toNat < s.data.toList.length := by simpa using hlt
      rw [List.getD_eq_getElem?_getD, List.getElem?_eq_getElem hlt']
      rfl
    rw [hd]
    simp [execOp, ho, Instr.index, asIntOf, hi.x_inv, hx.x_inv, run_und w hu, h0, hg]
  · exact h.elim

end ops

end Go.VS
