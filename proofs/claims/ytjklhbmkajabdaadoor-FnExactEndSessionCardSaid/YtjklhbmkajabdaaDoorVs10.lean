/- Every operation; a list of operations; regions, code, calls: the program logic without memory. -/
import Derived.Test.YtjklhbmkajabdaaDoorVs9
set_option linter.all false
namespace Go.VS
open Go Go.RowKit

section ops
variable {P : Program} {st : Store} {μ : List Mu} {w : World} {R : Nat → Prop} {ρ : Env} {a : Act} {K : V → Store → Prop}

/-- What a call asks of its end. -/
def Back (st : Store) (μ : List Mu) (w : World) (R : Nat → Prop) (K : V → Store → Prop) (e : Ending) (w' : World) : Prop :=
  ∃ c val st' μ' R', e = .returned val ∧ Ext st μ w R st' μ' w' R' ∧ SOk st' μ' w' R' ∧ RepV st' μ' w' R' c val ∧ K c st'

theorem callFunc_run {f : Nat} {args : Array Value} (h : ∃ fn, P.funcs[f]? = some fn ∧ fn.body.isSome = true ∧ (fn.name == "runtime.NumGoroutine") = false) : (callFunc f args).run P w = .ok (.enter f args) w := by
  obtain ⟨fn, h1, h2, h3⟩ := h
  obtain ⟨b, hb⟩ := Option.isSome_iff_exists.1 h2
  have h4 : fn.name ≠ "runtime.NumGoroutine" := by simpa using h3
  simp [callFunc, h1, h4, hb]

theorem spec_calls {f : Nat} {args : List V} (hs : SOk st μ w R) (h : Spec P f args st K) {vals : List Value} (hl : args.length = vals.length) (hv : ∀ (k : Nat) c v, args[k]? = some c → vals[k]? = some v → RepV st μ w R c v) :
    Calls P f vals.toArray w (Back st μ w R K) := by
  refine (h.2 μ w R vals hs hl hv).mono fun e w' ⟨r, val, st', μ', R', h1, h2, h3, h4, h5⟩ => ⟨r, val, st', μ', R', h1, h2, h3, h4, h5⟩

def CallRun (P : Program) (st : Store) (μ : List Mu) (w : World) (R : Nat → Prop) (r : Result Next) (K : V → Store → Prop) : Prop :=
  ∃ f vals, r = .ok (.enter f vals) w ∧ Calls P f vals w (Back st μ w R K)

theorem run_call (hs : SOk st μ w R) (he : REnv st μ w R ρ a.tmps) {o : Oper} {c : Call} (ho : o.op = .call c) (h : opW P ρ st (O.of (.call c)) K) :
    Done st μ w R ((execOp a.eval o).run P w) K ∨ CallRun P st μ w R ((execOp a.eval o).run P w) K := by
  obtain ⟨callee, args, argTypes⟩ := c
  have hargs := evs_rep hs he args.toList
  cases callee with
  | value x =>
    right
    have dyn : opW P ρ st (.cd (.of x) (args.toList.map .of)) K → CallRun P st μ w R ((execOp a.eval o).run P w) K := by
      intro h
      simp only [opW] at h
      have hx := ev_rep hs he x
      split at h
      · rename_i f cs hf
        rw [hf] at hx
        obtain ⟨vs, hl, hh, e⟩ := hx.fn_inv
        have hc := spec_calls (vals := args.toList.map a.eval ++ vs) hs h (by simp [evs_len, hl]) (fun k c v hc hv => by
          rw [List.getElem?_append] at hc hv
          simp only [evs_len, List.length_map] at hc hv
          by_cases b : k < args.toList.length
          · rw [if_pos b] at hc hv
            exact hargs k c v hc (by simpa using hv)
          · rw [if_neg b] at hc hv
            exact hh _ c v hc hv)
        refine ⟨f, _, ?_, hc⟩
        simp [execOp, ho, resolve, e, Deferred.ofValue, invoke, callFunc_run h.1]
      · exact h.elim
    cases x with
    | func f =>
      have h : Spec P f (evs ρ (args.toList.map .of)) st K := h
      refine ⟨f, _, ?_, spec_calls (vals := args.toList.map a.eval) hs h (by simp [evs_len]) hargs⟩
      have har : args.map a.eval = (args.toList.map a.eval).toArray := by apply Array.ext'; simp
      rw [← har]
      simp [execOp, ho, resolve, show a.eval (.func f) = .func (.func f) #[] #[] from rfl, Deferred.ofValue, invoke, callFunc_run h.1]
    | tmp t => exact dyn h
    | const v => exact dyn h
    | global g => exact dyn h
  | invoke r m => exact h.elim
  | builtin b =>
    left
    replace h : buW P st b argTypes.toList (evs ρ (args.toList.map .of)) K := h
    have hat : argTypes = argTypes.toList.toArray := by simp
    have har : args.map a.eval = (args.toList.map a.eval).toArray := by apply Array.ext'; simp
    unfold buW at h
    split at h
    · rename_i t x ht hx
      obtain ⟨y, hy⟩ : ∃ y, args.toList = [y] := by
        cases hq : args.toList with
        | nil => simp [hq, evs] at hx
        | cons y r => cases r with
          | nil => exact ⟨y, rfl⟩
          | cons z r => simp [hq, evs] at hx
      rw [hy] at hx har
      simp only [List.map_cons, List.map_nil, evs, List.cons.injEq, and_true] at hx
      rw [← hx] at h
      rw [ht] at hat
      obtain ⟨val, c, h1, h2, h3⟩ := done_len (ty := o.type) hs he h
      refine Done.here hs (val := val) ?_ h2 h3
      simp only [List.map_cons, List.map_nil] at har
      simp [execOp, ho, resolve, invoke, builtin, har, hat, h1]
    · rename_i t tx s x ht hx
      obtain ⟨y, z, hy⟩ : ∃ y z, args.toList = [y, z] := by
        cases hq : args.toList with
        | nil => simp [hq, evs] at hx
        | cons y r => cases r with
          | nil => simp [hq, evs] at hx
          | cons z r => cases r with
            | nil => exact ⟨y, z, rfl⟩
            | cons _ _ => simp [hq, evs] at hx
      rw [hy] at hx har
      simp only [List.map_cons, List.map_nil, evs, List.cons.injEq, and_true] at hx
      rw [← hx.1, ← hx.2] at h
      rw [ht] at hat
      obtain ⟨val, w', c, st', μ', R', h1, h2, h3, h4, h5⟩ : ∃ val w' c st' μ' R', (Builtin.append_ #[t, tx] o.type #[a.eval y, a.eval z]).run P w = .ok val w' ∧ Ext st μ w R st' μ' w' R' ∧ SOk st' μ' w' R' ∧ RepV st' μ' w' R' c val ∧ K c st' := by
        split at h
        · exact done_app (ty := o.type) hs (ev_rep hs he y) (ev_rep hs he z) h
        · exact done_appZ (ty := o.type) hs (ev_rep hs he y) (ev_rep hs he z) h
      refine ⟨val, w', c, st', μ', R', .inl ?_, h2, h3, h4, h5⟩
      simp only [List.map_cons, List.map_nil] at har
      simp [execOp, ho, resolve, invoke, builtin, har, hat, h1]
    · rename_i t x ht hx
      obtain ⟨y, hy⟩ : ∃ y, args.toList = [y] := by
        cases hq : args.toList with
        | nil => simp [hq, evs] at hx
        | cons y r => cases r with
          | nil => exact ⟨y, rfl⟩
          | cons z r => simp [hq, evs] at hx
      rw [hy] at hx har
      simp only [List.map_cons, List.map_nil, evs, List.cons.injEq, and_true] at hx
      rw [← hx] at h
      rw [ht] at hat
      obtain ⟨val, c, h1, h2, h3⟩ := done_cap (ty := o.type) hs (ev_rep hs he y) h
      refine Done.here hs (val := val) ?_ h2 h3
      simp only [List.map_cons, List.map_nil] at har
      simp [execOp, ho, resolve, invoke, builtin, har, hat, h1]
    · rename_i k x k' y hx
      obtain ⟨p, q, hy⟩ : ∃ p q, args.toList = [p, q] := by
        cases hq : args.toList with
        | nil => simp [hq, evs] at hx
        | cons y r => cases r with
          | nil => simp [hq, evs] at hx
          | cons z r => cases r with
            | nil => exact ⟨y, z, rfl⟩
            | cons _ _ => simp [hq, evs] at hx
      rw [hy] at hx har
      simp only [List.map_cons, List.map_nil, evs, List.cons.injEq, and_true] at hx har
      have e1 := ev_rep hs he p
      have e2 := ev_rep hs he q
      rw [hx.1] at e1; rw [hx.2] at e2
      obtain ⟨rfl, h⟩ := h
      refine Done.here hs (val := .int k (if y < x then y else x)) ?_ (.imm (.x _)) h
      simp [execOp, ho, resolve, invoke, builtin, har, e1.x_inv, e2.x_inv, Builtin.min_, Builtin.min2]
    · rename_i k x k' y hx
      obtain ⟨p, q, hy⟩ : ∃ p q, args.toList = [p, q] := by
        cases hq : args.toList with
        | nil => simp [hq, evs] at hx
        | cons y r => cases r with
          | nil => simp [hq, evs] at hx
          | cons z r => cases r with
            | nil => exact ⟨y, z, rfl⟩
            | cons _ _ => simp [hq, evs] at hx
      rw [hy] at hx har
      simp only [List.map_cons, List.map_nil, evs, List.cons.injEq, and_true] at hx har
      have e1 := ev_rep hs he p
      have e2 := ev_rep hs he q
      rw [hx.1] at e1; rw [hx.2] at e2
      obtain ⟨rfl, h⟩ := h
      refine Done.here hs (val := .int k (if y > x then y else x)) ?_ (.imm (.x _)) h
      simp [execOp, ho, resolve, invoke, builtin, har, e1.x_inv, e2.x_inv, Builtin.max_, Builtin.max2]
    · exact h.elim

theorem run_op (hs : SOk st μ w R) (he : REnv st μ w R ρ a.tmps) (o : Oper) (h : opW P ρ st (O.of o.op) K) :
    Done st μ w R ((execOp a.eval o).run P w) K ∨ CallRun P st μ w R ((execOp a.eval o).run P w) K := by
  cases ho : o.op with
  | move x => rw [ho] at h; exact .inl (done_mv hs he (.inl ho) h)
  | assign x => rw [ho] at h; exact .inl (done_mv hs he (.inr ho) h)
  | pick c x y => rw [ho] at h; exact .inl (done_pk hs he ho h)
  | alloc t => rw [ho] at h; exact .inl (done_al hs ho h)
  | box t x => rw [ho] at h; exact .inl (done_bx hs he ho h)
  | build t ps => rw [ho] at h; exact .inl (done_bd hs he ho h)
  | buildSlice t n ps => rw [ho] at h; exact .inl (done_bs hs he ho h)
  | load t x => rw [ho] at h; exact .inl (done_ld hs he ho h)
  | store t x y => rw [ho] at h; exact .inl (done_st hs he ho h)
  | nilCheck x => rw [ho] at h; exact .inl (done_nc hs he ho h)
  | binOp op t x y t' => rw [ho] at h; exact .inl (done_bi hs he ho h)
  | unOp op t x => rw [ho] at h; exact .inl (done_un hs he ho h)
  | convert s d x => rw [ho] at h; exact .inl (done_cv hs he ho h)
  | makeFunc g first cs =>
    rw [ho] at h
    simp only [O.of] at h
    split at h
    · rename_i hf
      have hf : first = #[] := by simpa using hf
      subst hf
      exact .inl (done_mf hs he ho h)
    · exact h.elim
  | makeSlice t x y => rw [ho] at h; exact .inl (done_ms hs he ho h)
  | slice t x lo hi mx =>
    rw [ho] at h
    cases mx with
    | none => exact .inl (done_sl hs he ho h)
    | some m => exact h.elim
  | fieldAddr t x k => rw [ho] at h; exact .inl (done_fa hs he ho h)
  | field t x k => rw [ho] at h; exact .inl (done_fl hs he ho h)
  | indexAddr t x i => rw [ho] at h; exact .inl (done_ia hs he ho h)
  | index t x i => rw [ho] at h; exact .inl (done_ix hs he ho h)
  | extract x k => rw [ho] at h; exact .inl (done_ex hs he ho h)
  | call c => rw [ho] at h; exact run_call hs he ho h
  | _ => rw [ho] at h; exact h.elim

end ops

end Go.VS
