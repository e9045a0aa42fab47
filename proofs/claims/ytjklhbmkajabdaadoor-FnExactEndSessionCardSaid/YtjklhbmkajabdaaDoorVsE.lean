/- Regions whose order is drawn: sound. -/
import Derived.Test.YtjklhbmkajabdaaDoorVsD
set_option linter.all false
namespace Go.VS
open Go Go.RowKit

section
variable {P : Program} {N : Nat} {im : Bool} {ops : Array Oper}

/-- One operation, carried out. -/
theorem opW_wp {Q : Exit → Act → World → Prop} {st : Store} {μ : List Mu} {w : World} {R : Nat → Prop} {ρ : Env} {a : Act} (ha : At N st μ w R ρ a) {o : Oper} {co : CO} (hc : stripO N im ops o = some co) {K : V → Store → Prop} {K' : Act → World → Prop}
    (h : opW P ρ st co.o K) (hK : ∀ a' w' c st' μ' R', At N st' μ' w' R' (put co.d c ρ) a' → Ext st μ w R st' μ' w' R' → K c st' → K' a' w') : o.wp P a w K' Q := by
  obtain ⟨hd, hde, ho, _⟩ := guard_of hc
  rw [ho] at h
  unfold Oper.wp
  rcases run_im ha.ok ha.env o im h with ⟨val, w', c', st', μ', R', hr, hx, hs, hc', hk⟩ | ⟨f, vals, hr, hcall⟩
  · have hnext := hK (a.put o.dst val) w' c' st' μ' R' (by rw [hde] at hd ⊢; exact ha.step hs hx hd hc') hx hk
    rcases hr with hr | ⟨hr, rfl⟩
    · rw [hr]; exact hnext
    · rw [hr]; exact hnext
  · rw [hr]
    refine hcall.mono fun e w' hb => ?_
    obtain ⟨c', val, st', μ', R', rfl, hx, hs, hc', hk⟩ := hb
    exact hK (a.put o.dst val) w' c' st' μ' R' (by rw [hde] at hd ⊢; exact ha.step hs hx hd hc') hx hk

theorem bad_step {st : Store} {μ : List Mu} {w : World} {R : Nat → Prop} {ρ : Env} {a : Act} (ha : At N st μ w R ρ a) {o : Oper} {co : CO} (hc : stripO N im ops o = some co) : At N st μ w R (put co.d .un ρ) (a.put o.dst undef) := by
  obtain ⟨hd, hde, _, _⟩ := guard_of hc
  rw [hde] at hd ⊢
  exact ha.step ha.ok (Ext.refl _ _ _ _) hd (.imm (.x undef))

theorem gW_sound {Q : Exit → Act → World → Prop} {st : Store} {μ : List Mu} {w : World} {R : Nat → Prop} {ρ : Env} {a : Act} (ha : At N st μ w R ρ a) {i : Nat} {o : Oper} {co : CO} (hi : ops[i]? = some o) (hc : stripO N im ops o = some co)
    {K : Env → Store → Prop} {K' : Act → World → Prop} (h : gW P co ρ st K) (hK : ∀ a' w' ρ' st' μ' R', At N st' μ' w' R' ρ' a' → Ext st μ w R st' μ' w' R' → K ρ' st' → K' a' w') : wpOp P ops Q i K' a w := by
  obtain ⟨hd, hde, ho, hg⟩ := guard_of hc
  unfold wpOp
  simp only [hi]
  unfold gW at h
  rcases hg with ⟨hg, hg'⟩ | ⟨j, b, d, hg, hdj, hN, hg'⟩
  · simp only [hg'] at h
    rw [if_pos (wanted_none hg)]
    exact .inl (opW_wp ha hc h fun a' w' c st' μ' R' h1 h2 h3 => hK a' w' _ st' μ' R' h1 h2 h3)
  · simp only [hg'] at h
    rcases guard_wanted ha hg hdj hN h with ⟨hw, h⟩ | ⟨hw, h⟩
    · rw [if_pos hw]
      exact .inl (opW_wp ha hc h fun a' w' c st' μ' R' h1 h2 h3 => hK a' w' _ st' μ' R' h1 h2 h3)
    · rw [hw, if_neg (by simp)]
      exact hK _ _ _ st μ R (bad_step ha hc) (Ext.refl _ _ _ _) h

theorem gW_still {st : Store} {μ : List Mu} {w : World} {R : Nat → Prop} {ρ : Env} {a : Act} (ha : At N st μ w R ρ a) {o : Oper} {co : CO} (hc : stripO N im ops o = some co) (hst : stillO co.o = true)
    {K : Env → Store → Prop} (h : gW P co ρ st K) : ∃ v c, Yields P ops o v a ∧ At N st μ w R (put co.d c ρ) (a.put o.dst v) ∧ K (put co.d c ρ) st := by
  obtain ⟨hd, hde, ho, hg⟩ := guard_of hc
  have hof : co.o = O.of o.op := by
    rw [ho]
    rw [ho] at hst
    cases im with
    | false => rfl
    | true =>
      simp only [cond_true] at hst ⊢
      generalize O.of o.op = q at *
      cases q <;> first | rfl | (cases hst)
  have go : ∀ {K : V → Store → Prop}, opW P ρ st co.o K → ∃ val c, (∀ w2, (execOp a.eval o).run P w2 = .ok (.value val) w2) ∧ At N st μ w R (put co.d c ρ) (a.put o.dst val) ∧ K c st := fun {K} h => by
    rw [hof] at h
    obtain ⟨val, c, h1, h2, h3⟩ := still_op ha.ok ha.env o (by rw [← hof]; exact hst) h
    refine ⟨val, c, h1, ?_, h3⟩
    rw [hde] at hd ⊢
    exact ha.step ha.ok (Ext.refl _ _ _ _) hd h2
  unfold gW at h
  rcases hg with ⟨hg, hg'⟩ | ⟨j, b, d, hg, hdj, hN, hg'⟩
  · simp only [hg'] at h
    obtain ⟨val, c, h1, h2, h3⟩ := go h
    exact ⟨val, c, .inl ⟨wanted_none hg, h1⟩, h2, h3⟩
  · simp only [hg'] at h
    rcases guard_wanted ha hg hdj hN h with ⟨hw, h⟩ | ⟨hw, h⟩
    · obtain ⟨val, c, h1, h2, h3⟩ := go h
      exact ⟨val, c, .inl ⟨hw, h1⟩, h2, h3⟩
    · exact ⟨undef, .un, .inr ⟨hw, rfl⟩, bad_step ha hc, h⟩

end

/-! ### Kept places -/

theorem push_phs {st : Store} {μ : List Mu} {w : World} {R : Nat → Prop} (h : SOk st μ w R) : ∀ T : Nat, SOk (st ++ List.replicate T ph) (μ ++ List.replicate T ⟨0, 0, 0⟩) w R ∧ Ext st μ w R (st ++ List.replicate T ph) (μ ++ List.replicate T ⟨0, 0, 0⟩) w R
  | 0 => by simpa using ⟨h, Ext.refl st μ w R⟩
  | T + 1 => by
    obtain ⟨h1, h2⟩ := push_phs h T
    obtain ⟨g1, g2⟩ := push_nil_ok h1 ph (.inl rfl)
    rw [List.append_assoc, List.append_assoc, ← List.replicate_succ', ← List.replicate_succ'] at g1 g2
    exact ⟨g1, h2.trans g2⟩

/-- A new block is put into its kept place. -/
theorem place_ok {S : Store} {μ μ1 : List Mu} {w w1 : World} {R R1 : Nat → Prop} {b : Blk} (hs : SOk S μ w R) (h1 : SOk (S ++ [b]) μ1 w1 R1) (hx : Ext S μ w R (S ++ [b]) μ1 w1 R1) (hbv : b.ver = 0) {i : Nat} (hi : S[i]? = some ph) (hu : V.under.all S.length b.cells = true) :
    ∃ μ2, SOk (S.set i { b with ver := 1 }) μ2 w1 R1 ∧ Ext S μ w R (S.set i { b with ver := 1 }) μ2 w1 R1 ∧ (∀ mk v, RepV (S ++ [b]) μ1 w1 R1 (mkV mk S.length 0) v → RepV (S.set i { b with ver := 1 }) μ2 w1 R1 (mkV mk i 1) v) ∧
      ∀ c v, RepV (S ++ [b]) μ1 w1 R1 c v → c.under S.length = true → RepV (S.set i { b with ver := 1 }) μ2 w1 R1 c v := by
  have hlt := getElem?_lt hi
  have hl1 : μ1.length = S.length + 1 := by rw [h1.len]; simp
  obtain ⟨m, hm⟩ : ∃ m, μ1[S.length]? = some m := ⟨_, List.getElem?_eq_getElem (by omega)⟩
  have htl : (μ1.take S.length).length = S.length := by simp; omega
  obtain ⟨m0, hm0⟩ : ∃ m0, (μ1.take S.length)[i]? = some m0 := ⟨_, List.getElem?_eq_getElem (by omega)⟩
  have hbk : (S ++ [b])[S.length]? = some b := by simp
  have htk : (S ++ [b]).take S.length = S := by simp
  have hx' := hx.trunc (m := S.length) (Nat.le_refl _)
  rw [htk] at hx'
  have hle : StLe S (μ1.take S.length) (S.set i { b with ver := 1 }) ((μ1.take S.length).set i m) := StLe.set (m' := m) hi hm0 (by simp [ph]) (fun h => by simp [ph] at h)
  have keep : ∀ {c : V} {v : Value}, RepV (S ++ [b]) μ1 w1 R1 c v → c.under S.length = true → RepV (S.set i { b with ver := 1 }) ((μ1.take S.length).set i m) w1 R1 c v := fun {c v} h hc => by
    have := h.trunc hc
    rw [htk] at this
    exact this.mono hle (fun _ _ => rfl) (fun _ h => h)
  have from' : ∀ {j : Nat} {k : Blk} {q : Mu}, (S.set i { b with ver := 1 })[j]? = some k → ((μ1.take S.length).set i m)[j]? = some q → (j = i ∧ k = { b with ver := 1 } ∧ q = m) ∨ (j ≠ i ∧ j < S.length ∧ S[j]? = some k ∧ (S ++ [b])[j]? = some k ∧ μ1[j]? = some q) := fun {j k q} g1 g2 => by
    rcases getElem?_set' g1 with ⟨a1, a2, _⟩ | ⟨a1, a2⟩
    · rcases getElem?_set' g2 with ⟨_, b2, _⟩ | ⟨b1, _⟩
      · exact .inl ⟨a1, a2, b2⟩
      · exact absurd a1 b1
    · rcases getElem?_set' g2 with ⟨b1, _, _⟩ | ⟨_, b2⟩
      · exact absurd b1 a1
      · exact .inr ⟨a1, getElem?_lt a2, a2, getElem?_left _ a2, (getElem?_take' b2).2⟩
  refine ⟨(μ1.take S.length).set i m, ⟨by simp only [List.length_set, htl], h1.lt, h1.glob, fun j k q hj hq h2 => ?_, fun j k hj hk => ?_, fun j j' k k' q q' hne g1 g2 g3 g4 g5 g6 => ?_⟩, ⟨hx.os, hx.tape, hx.output, hx.size, hx.keep, hx.sub, hx.new, fun b' hb' => ?_, hx'.stle.trans hle⟩, fun mk v hv => ?_, fun c v h hc => keep h hc⟩
  · rcases from' hj hq with ⟨rfl, rfl, rfl⟩ | ⟨_, hjl, g0, g1, g2⟩
    · obtain ⟨arr, ty, q1, q2, q3, q4, q5⟩ := h1.liv _ b q hbk hm h2
      exact ⟨arr, ty, q1, q2, q3, q4, fun n c hc => by
        obtain ⟨v, p1, p2, p3⟩ := q5 n c hc
        exact ⟨v, p1, p2, keep p3 (V.under_all hu n c hc)⟩⟩
    · obtain ⟨arr, ty, q1, q2, q3, q4, q5⟩ := h1.liv j k q g1 g2 h2
      exact ⟨arr, ty, q1, q2, q3, q4, fun n c hc => by
        obtain ⟨v, p1, p2, p3⟩ := q5 n c hc
        exact ⟨v, p1, p2, keep p3 (V.under_all (hs.under (Nat.le_refl _) j k g0 h2) n c hc)⟩⟩
  · rcases getElem?_set' hj with ⟨_, rfl, _⟩ | ⟨_, hj⟩
    · exact h1.vir _ b hbk hk
    · exact h1.vir j k (getElem?_left _ hj) hk
  · rcases from' g1 g3 with ⟨rfl, rfl, rfl⟩ | ⟨_, a0, _, a1, a2⟩ <;> rcases from' g2 g4 with ⟨rfl, rfl, rfl⟩ | ⟨_, b0, _, b1, b2⟩
    · exact absurd rfl hne
    · exact h1.dis S.length j' b k' q q' (by omega) hbk b1 hm b2 g5 g6
    · exact h1.dis j S.length k b q q' (by omega) a1 hbk a2 hm g5 g6
    · exact h1.dis j j' k k' q q' hne a1 b1 a2 b2 g5 g6
  · obtain ⟨j, k, q, g1, g2, g3, rfl⟩ := hb'
    rcases from' g1 g2 with ⟨rfl, rfl, rfl⟩ | ⟨_, _, _, a1, a2⟩
    · exact hx.own _ ⟨S.length, b, q, hbk, hm, g3, rfl⟩
    · exact hx.own _ ⟨j, k, q, a1, a2, g3, rfl⟩
  · have e1 : (S.set i { b with ver := 1 })[i]? = some { b with ver := 1 } := List.getElem?_set_self hlt
    have e2 : ((μ1.take S.length).set i m)[i]? = some m := List.getElem?_set_self (by omega)
    cases mk with
    | some n =>
      have ho := one_of hv rfl
      refine .ref i 1 0 n { b with ver := 1 } m v e1 e2 (Nat.le_refl _) ho fun _ hn => ?_
      obtain ⟨m', hm', hr⟩ := hv.ref_get hbk hbv hn
      rw [hm] at hm'; cases hm'
      exact hr
    | none =>
      have ho := one_of hv rfl
      refine .ptr i 1 0 { b with ver := 1 } m v e1 e2 (Nat.le_refl _) ho fun _ hn => ?_
      obtain ⟨m', hm', hr⟩ := hv.ptr_get hbk hbv hn
      rw [hm] at hm'; cases hm'
      exact hr

/-! ### The schedule -/

inductive DS where
  | dn
  | e (i : Nat) (r : DS)
  | h (is : List Nat) (r : DS)
  | n (is : List (Bool × Nat)) (r : DS)
  | a (i : Nat) (r o : DS)
  | nx
deriving Inhabited

def DS.alts : DS → List Nat
  | .a i _ o => i :: o.alts
  | _ => []

def DS.cnt : DS → Nat
  | .dn => 0
  | .e _ r => r.cnt + 1
  | .h is r => r.cnt + is.length
  | .n is r => r.cnt + is.length
  | .a _ r o => max (r.cnt + 1) o.cnt
  | .nx => 0

def setAll (l : Array Bool) : List Nat → Array Bool
  | [] => l
  | i :: r => setAll (l.setIfInBounds i true) r

def ordB (ops : Array Oper) : Array Bool → List Nat → Bool
  | _, [] => true
  | L, i :: r => (Region.ready .any ops L).contains i && ordB ops (L.setIfInBounds i true) r

def waits (ops : Array Oper) (i j : Nat) : Bool :=
  match ops[i]? with
  | some o => o.after.any fun e => Region.binds .any e && e.on == j
  | none => false

def nodupB : List Nat → Bool
  | [] => true
  | i :: r => !r.contains i && nodupB r

/-- All that can be listed of them while one is not. -/
def part (ops : Array Oper) (i : Nat) : Array Bool → List Nat → Array Bool
  | L, [] => L
  | L, j :: r => if j != i && (Region.ready .any ops L).contains j then part ops i (L.setIfInBounds j true) r else part ops i L r

def hB (ops : Array Oper) (L : Array Bool) (hs : List (Nat × CO)) : Bool :=
  let is := hs.map (·.1)
  nodupB is && ordB ops L is && is.all (fun i => (Region.ready .any ops (part ops i L is)).all is.contains) && okc (hs.map (·.2)) &&
  hs.all fun p => hs.all fun q => match q.2.d with
    | none => true
    | some t => !p.2.reads.contains t || waits ops p.1 q.1

def stepO (N : Nat) (im : Bool) (ops : Array Oper) (i : Nat) : Option CO := (ops[i]?).bind (stripO N im ops)

def stepsO (N : Nat) (im : Bool) (ops : Array Oper) : List Nat → Option (List (Nat × CO))
  | [] => some []
  | i :: r => match stepO N im ops i, stepsO N im ops r with
    | some c, some cs => some ((i, c) :: cs)
    | _, _ => none

def stepsN (N : Nat) (im : Bool) (ops : Array Oper) : List (Bool × Nat) → Option (List (Nat × Bool × CO))
  | [] => some []
  | (b, i) :: r => match stepO N im ops i, stepsN N im ops r with
    | some c, some cs => some ((i, b, c) :: cs)
    | _, _ => none

def hsOf (hs : List (Nat × Bool × CO)) : List (Nat × CO) := hs.map fun p => (p.1, p.2.2)

def dchk (N : Nat) (im : Bool) (ops : Array Oper) : Bool → DS → Array Bool → Option DC
  | false, .dn, L => if (Region.ready .any ops L).isEmpty then some .dn else none
  | false, .e i r, L => if Region.noSelect ops && Region.free .any ops L i && (Region.ready .any ops L).contains i then
      match stepO N im ops i, dchk N im ops false r (L.setIfInBounds i true) with
      | some co, some d => if stillO co.o then some (.e co d) else none
      | _, _ => none
    else none
  | false, .h is r, L => match stepsO N im ops is, dchk N im ops false r (setAll L is) with
    | some hs, some d => if hB ops L hs then some (.h (hs.map (·.2)) d) else none
    | _, _ => none
  | false, .n is r, L => match stepsN N im ops is, dchk N im ops false r (setAll L (is.map (·.2))) with
    | some hs, some d => if hB ops L (hsOf hs) then some (.n (hs.map (·.2)) d) else none
    | _, _ => none
  | b, .a i r o, L => if b || (DS.alts (.a i r o) == Region.ready .any ops L) then
      match stepO N im ops i, dchk N im ops false r (L.setIfInBounds i true), dchk N im ops true o L with
      | some co, some x, some y => some (.a co x y)
      | _, _, _ => none
    else none
  | true, .nx, _ => some .nx
  | _, _, _ => none

section
variable {P : Program} {N : Nat} {im : Bool} {ops : Array Oper}

theorem setAll_size : ∀ (is : List Nat) (L : Array Bool), (setAll L is).size = L.size
  | [], _ => rfl
  | i :: r, L => by rw [setAll, setAll_size r]; simp

theorem setAll_get {d : Bool} : ∀ (is : List Nat) (L : Array Bool) (j : Nat), (setAll L is).getD j d = if j ∈ is ∧ j < L.size then true else L.getD j d
  | [], L, j => by simp [setAll]
  | i :: r, L, j => by
    rw [setAll, setAll_get r]
    simp only [Array.size_setIfInBounds, List.mem_cons]
    by_cases hj : j < L.size
    · by_cases h1 : j ∈ r
      · simp [h1, hj]
      · by_cases h2 : j = i
        · subst h2; simp [h1, hj]
        · rw [if_neg (by simp [h1]), if_neg (by simp [h1, h2])]
          rw [getD_set_ne d (Ne.symm h2)]
    · rw [if_neg (by simp [hj]), if_neg (by simp [hj])]
      simp [hj]

theorem nodup_of : ∀ {is : List Nat}, nodupB is = true → is.Nodup
  | [], _ => List.nodup_nil
  | i :: r, h => by
    simp only [nodupB, Bool.and_eq_true, Bool.not_eq_true'] at h
    exact List.nodup_cons.2 ⟨by have := h.1; simpa using this, nodup_of h.2⟩

/-- More listed: what could come up can come up still. -/
theorem ready_up {L L' : Array Bool} {j : Nat} (hj : j ∈ Region.ready .any ops L) (hle : ∀ k, L.getD k false = true → L'.getD k false = true) (hun : L'.getD j true = false) : j ∈ Region.ready .any ops L' := by
  rw [mem_ready] at *
  obtain ⟨_, o, ho, hall⟩ := hj
  exact ⟨hun, o, ho, fun e he hb => hle _ (hall e he hb)⟩

theorem ord_ready {L' : Array Bool} : ∀ {is : List Nat} {L : Array Bool}, ordB ops L is = true → (∀ k, L.getD k false = true → L'.getD k false = true) → (∃ i ∈ is, L'.getD i true = false) → (∀ i ∈ is, L'.getD i true = true → L'.getD i false = true) →
    ∃ i ∈ is, i ∈ Region.ready .any ops L'
  | [], _, _, _, h, _ => by obtain ⟨i, hi, _⟩ := h; cases hi
  | i :: r, L, hB, hle, hex, hin => by
    simp only [ordB, Bool.and_eq_true] at hB
    by_cases h : L'.getD i true = false
    · exact ⟨i, by simp, ready_up (by simpa using hB.1) hle h⟩
    · have hli : L'.getD i true = true := by simpa using h
      obtain ⟨k, hk, hr⟩ := ord_ready (is := r) hB.2 (fun k hk => by
        by_cases e : i = k
        · subst e; exact hin i (by simp) hli
        · rw [getD_set_ne false e] at hk; exact hle k hk) (by
        obtain ⟨k, hk, hu⟩ := hex
        rcases List.mem_cons.1 hk with rfl | hk
        · exact absurd hu h
        · exact ⟨k, hk, hu⟩) (fun k hk => hin k (by simp [hk]))
      exact ⟨k, by simp [hk], hr⟩

theorem ord_un : ∀ {is : List Nat} {L : Array Bool}, ordB ops L is = true → ∀ i ∈ is, L.getD i true = false
  | [], _, _, i, hi => by cases hi
  | j :: r, L, h, i, hi => by
    simp only [ordB, Bool.and_eq_true] at h
    have hj : j ∈ Region.ready .any ops L := by simpa using h.1
    by_cases e : j = i
    · subst e; exact (mem_ready.1 hj).1
    · rcases List.mem_cons.1 hi with rfl | hi
      · exact absurd rfl e
      · have := ord_un h.2 i hi
        rwa [getD_set_ne true e] at this

theorem part_ge {L' : Array Bool} {i : Nat} (hi : L'.getD i false = false) : ∀ {is : List Nat} {Lf Lp : Array Bool}, ordB ops Lf is = true →
    (∀ j ∈ is, L'.getD j false = true → ∀ o, ops[j]? = some o → ∀ e ∈ o.after, Region.binds .any e = true → L'.getD e.on false = true) →
    (∀ k, Lf.getD k true = false → Lp.getD k true = false) → (∀ k, L'.getD k false = true → Lf.getD k false = true → Lp.getD k false = true) → Lp.size = Lf.size →
    ∀ k, L'.getD k false = true → (setAll Lf is).getD k false = true → (part ops i Lp is).getD k false = true
  | [], Lf, Lp, _, _, _, h, _, k, hk, hk' => h k hk hk'
  | j :: r, Lf, Lp, hord, hcl, hun, hin, hsz, k, hk, hk' => by
    simp only [ordB, Bool.and_eq_true] at hord
    have hj : j ∈ Region.ready .any ops Lf := by simpa using hord.1
    have hjun := (mem_ready.1 hj).1
    have hjlt : j < Lf.size := by
      rcases Nat.lt_or_ge j Lf.size with h | h
      · exact h
      · simp [Array.getElem?_eq_none h] at hjun
    have step : ∀ (Lp' : Array Bool), Lp'.size = Lf.size → (∀ k, Lf.getD k true = false → j ≠ k → Lp'.getD k true = false) → (∀ k, L'.getD k false = true → (Lf.setIfInBounds j true).getD k false = true → Lp'.getD k false = true) → (part ops i Lp' r).getD k false = true := fun Lp' h1 h2 h3 =>
      part_ge hi (is := r) (Lf := Lf.setIfInBounds j true) hord.2 (fun j' hj' => hcl j' (List.mem_cons_of_mem _ hj')) (fun q hq => by
        by_cases e : j = q
        · subst e; simp [hjlt] at hq
        · rw [getD_set_ne true e] at hq; exact h2 q hq e) h3 (by simpa using h1) k hk hk'
    unfold part
    by_cases hc : (j != i && (Region.ready .any ops Lp).contains j) = true
    · rw [if_pos hc]
      refine step _ (by simpa using hsz) (fun q hq e => by rw [getD_set_ne true e]; exact hun q hq) (fun q hq hq' => ?_)
      by_cases e : j = q
      · subst e; simp [hsz, hjlt]
      · rw [getD_set_ne false e] at hq' ⊢; exact hin q hq hq'
    · rw [if_neg hc]
      refine step _ hsz (fun q hq _ => hun q hq) (fun q hq hq' => ?_)
      by_cases e : j = q
      · subst e
        exfalso
        apply hc
        simp only [Bool.and_eq_true, bne_iff_ne, ne_eq]
        refine ⟨fun e => ?_, ?_⟩
        · subst e; rw [hi] at hq; cases hq
        · obtain ⟨_, o, ho, hall⟩ := mem_ready.1 hj
          have : j ∈ Region.ready .any ops Lp := mem_ready.2 ⟨hun j hjun, o, ho, fun e he hb => hin _ (hcl j (by simp) hq o ho e he hb) (hall e he hb)⟩
          simpa using this
      · rw [getD_set_ne false e] at hq'; exact hin q hq hq'

theorem part_out {i j : Nat} : ∀ {is : List Nat} {L : Array Bool}, j ∉ is → (part ops i L is).getD j true = L.getD j true
  | [], _, _ => rfl
  | k :: r, L, h => by
    simp only [List.mem_cons, not_or] at h
    unfold part
    split
    · rw [part_out h.2, getD_set_ne true (Ne.symm h.1)]
    · exact part_out h.2

theorem stepsO_mem : ∀ {is : List Nat} {hs : List (Nat × CO)}, stepsO N im ops is = some hs → hs.map (·.1) = is ∧ ∀ p ∈ hs, ∃ o, ops[p.1]? = some o ∧ stripO N im ops o = some p.2
  | [], hs, h => by simp only [stepsO, Option.some.injEq] at h; subst h; exact ⟨rfl, fun p hp => by cases hp⟩
  | i :: r, hs, h => by
    simp only [stepsO] at h
    split at h
    · rename_i c cs h1 h2
      cases h
      obtain ⟨e1, e2⟩ := stepsO_mem h2
      refine ⟨by simp [e1], fun p hp => ?_⟩
      rcases List.mem_cons.1 hp with rfl | hp
      · unfold stepO at h1
        cases ho : ops[i]? with
        | none => simp [ho] at h1
        | some o => exact ⟨o, rfl, by simpa [ho] using h1⟩
      · exact e2 p hp
    · cases h

/-- Operations with one answer, in any order. -/
theorem h_sound {Q : Exit → Act → World → Prop} {L : Array Bool} {hs : List (Nat × CO)} (hL : L.size = ops.size) (hmem : ∀ p ∈ hs, ∃ o, ops[p.1]? = some o ∧ stripO N im ops o = some p.2) (hb : hB ops L hs = true) {st : Store} {ρ ρF : Env}
    (hF1 : ∀ k, (∀ c ∈ hs.map (·.2), c.d ≠ some k) → lk ρF k = lk ρ k) (hF2 : ∀ c ∈ hs.map (·.2), ∃ v, gQ P c ρF st v ∧ ∀ d, c.d = some d → lk ρF d = v)
    {st0 : Store} {μ0 : List Mu} {w0 : World} {R0 : Nat → Prop} {g : Nat} (hfin : ∀ a' w' μ' R', At N st μ' w' R' ρF a' → Ext st0 μ0 w0 R0 st μ' w' R' → wpAny P .any ops Q g (setAll L (hs.map (·.1))) a' w') :
    ∀ (n : Nat) (rem : List Nat) (L' : Array Bool) (ρ' : Env) (μ : List Mu) (w : World) (R : Nat → Prop) (a : Act), rem.length = n → rem.Nodup → L'.size = ops.size → (∀ i ∈ rem, i ∈ hs.map (·.1)) → (∀ i ∈ hs.map (·.1), (i ∈ rem ↔ L'.getD i true = false)) → (∀ j, j ∉ hs.map (·.1) → L'.getD j true = L.getD j true) →
      (∀ j ∈ hs.map (·.1), L'.getD j false = true → ∀ o, ops[j]? = some o → ∀ e ∈ o.after, Region.binds .any e = true → L'.getD e.on false = true) →
      (∀ k, (∃ p ∈ hs, p.1 ∉ rem ∧ p.2.d = some k) → lk ρ' k = lk ρF k) → (∀ k, (¬ ∃ p ∈ hs, p.1 ∉ rem ∧ p.2.d = some k) → lk ρ' k = lk ρ k) → At N st μ w R ρ' a → Ext st0 μ0 w0 R0 st μ w R → wpAny P .any ops Q (g + n) L' a w := by
  simp only [hB, Bool.and_eq_true, List.all_eq_true] at hb
  obtain ⟨⟨⟨⟨hnd, hord⟩, hone⟩, hokc⟩, hdata⟩ := hb
  have hnd := nodup_of hnd
  have hlt : ∀ i ∈ hs.map (·.1), i < ops.size := fun i hi => by
    obtain ⟨p, hp, rfl⟩ := List.mem_map.1 hi
    obtain ⟨o, ho, _⟩ := hmem p hp
    exact (Array.getElem?_eq_some_iff.1 ho).1
  have both : ∀ {L' : Array Bool}, L'.size = ops.size → ∀ i, i < ops.size → L'.getD i true = L'.getD i false := fun {L'} h i hi => by
    have : i < L'.size := by rw [h]; exact hi
    simp [this]
  intro n
  induction n with
  | zero =>
    intro rem L' ρ' μ w R a hn hnr hL' hsub hiff hout hcl hk1 hk2 ha hx
    have hrem : rem = [] := List.length_eq_zero_iff.1 hn
    subst hrem
    have hLeq : L' = setAll L (hs.map (·.1)) := by
      apply Array.ext (by rw [setAll_size, hL', hL])
      intro i h1 h2
      have e1 : L'.getD i true = L'[i] := by simp [h1]
      have e2 : (setAll L (hs.map (·.1))).getD i true = (setAll L (hs.map (·.1)))[i] := by simp [h2]
      rw [← e1, ← e2, setAll_get]
      by_cases hi : i ∈ hs.map (·.1)
      · rw [if_pos ⟨hi, by rw [hL, ← hL']; exact h1⟩]
        have : ¬ L'.getD i true = false := fun h => by have := (hiff i hi).2 h; cases this
        simpa using this
      · rw [if_neg (fun h => hi h.1)]; exact hout i hi
    have hlk : ∀ k, lk ρ' k = lk ρF k := fun k => by
      by_cases h : ∃ p ∈ hs, p.1 ∉ ([] : List Nat) ∧ p.2.d = some k
      · exact hk1 k h
      · rw [hk2 k h, hF1 k]
        intro c hc e
        obtain ⟨p, hp, rfl⟩ := List.mem_map.1 hc
        exact h ⟨p, hp, by simp, e⟩
    rw [hLeq]
    exact hfin a w μ R ⟨ha.ok, fun k => by rw [← hlk k]; exact ha.env k, ha.size, ha.defers⟩ hx
  | succ n ih =>
    intro rem L' ρ' μ w R a hn hnr hL' hsub hiff hout hcl hk1 hk2 ha hx
    have hle : ∀ k, L.getD k false = true → L'.getD k false = true := fun k hk => by
      have hklt : k < ops.size := by
        rcases Nat.lt_or_ge k L.size with h | h
        · rw [← hL]; exact h
        · simp [Array.getElem?_eq_none h] at hk
      by_cases hi : k ∈ hs.map (·.1)
      · exfalso
        have hu := ord_un hord k hi
        rw [both hL k hklt, hk] at hu
        cases hu
      · rw [← both hL' k hklt, hout k hi, both hL k hklt]; exact hk
    have hready : ∀ j ∈ Region.ready .any ops L', j ∈ rem := fun j hj => by
      have hju := (mem_ready.1 hj).1
      by_cases hjin : j ∈ hs.map (·.1)
      · exact (hiff j hjin).2 hju
      · exfalso
        obtain ⟨i, hi⟩ : ∃ i, i ∈ rem := by
          cases rem with
          | nil => simp at hn
          | cons i r => exact ⟨i, by simp⟩
        have hii := hsub i hi
        have h1 := hone i hii
        have hiu : L'.getD i false = false := by rw [← both hL' i (hlt i hii)]; exact (hiff i hii).1 hi
        have hge := part_ge (ops := ops) (L' := L') hiu (is := hs.map (·.1)) (Lf := L) (Lp := L) hord hcl (fun _ h => h) (fun _ _ h => h) rfl
        have hup : ∀ k, L'.getD k false = true → (part ops i L (hs.map (·.1))).getD k false = true := fun k hk => hge k hk (by
          rw [setAll_get]
          have hklt : k < ops.size := by
            rcases Nat.lt_or_ge k L'.size with h | h
            · rw [← hL']; exact h
            · simp [Array.getElem?_eq_none h] at hk
          by_cases hkin : k ∈ hs.map (·.1)
          · rw [if_pos ⟨hkin, by rw [hL]; exact hklt⟩]
          · have := hout k hkin
            rw [both hL' k hklt, both hL k hklt] at this
            rw [← this, hk]; simp)
        have h2 : j ∈ Region.ready .any ops (part ops i L (hs.map (·.1))) := ready_up hj hup (by
          rw [part_out hjin, ← hout j hjin]; exact hju)
        have := h1 j h2
        exact hjin (by simpa using this)
    have hne : Region.ready .any ops L' ≠ [] := by
      obtain ⟨i, hi⟩ : ∃ i, i ∈ rem := by
        cases rem with
        | nil => simp at hn
        | cons i r => exact ⟨i, by simp⟩
      obtain ⟨k, _, hk⟩ := ord_ready hord hle ⟨i, hsub i hi, (hiff i (hsub i hi)).1 hi⟩ (fun i hi h => by rw [← both hL' i (hlt i hi)]; exact h)
      intro e
      rw [e] at hk; cases hk
    refine ⟨fun h => absurd h hne, fun i hi => ?_⟩
    have hir := hready i hi
    obtain ⟨p, hp, hpi⟩ := List.mem_map.1 (hsub i hir)
    obtain ⟨o, ho, hstrip⟩ := hmem p hp
    rw [hpi] at ho
    obtain ⟨v, hgq, hd⟩ := hF2 p.2 (List.mem_map.2 ⟨p, hp, rfl⟩)
    have hgq' : gQ P p.2 ρ' st v := gQ_congr (fun t ht => by
      by_cases h : ∃ q ∈ hs, q.2.d = some t
      · obtain ⟨q, hq, hqt⟩ := h
        have hw := hdata p hp q hq
        rw [hqt] at hw
        simp only [Bool.or_eq_true, Bool.not_eq_true'] at hw
        have hw : waits ops p.1 q.1 = true := by
          rcases hw with hw | hw
          · have : p.2.reads.contains t = true := by simpa using ht
            rw [this] at hw; cases hw
          · exact hw
        have hq' : q.1 ∉ rem := fun hqr => by
          unfold waits at hw
          rw [hpi, ho] at hw
          simp only at hw
          obtain ⟨e, he, hb⟩ := Array.any_eq_true'.1 hw
          simp only [Bool.and_eq_true, beq_iff_eq] at hb
          obtain ⟨_, o', ho', hall⟩ := mem_ready.1 hi
          have : o' = o := Option.some.inj (ho'.symm.trans ho)
          subst this
          have h1 := hall e he hb.1
          rw [hb.2, ← both hL' q.1 (hlt q.1 (List.mem_map.2 ⟨q, hq, rfl⟩)), (hiff q.1 (List.mem_map.2 ⟨q, hq, rfl⟩)).1 hqr] at h1
          cases h1
        exact (hk1 t ⟨q, hq, hq', hqt⟩).symm
      · rw [hF1 t (fun c hc e => by
          obtain ⟨q, hq, rfl⟩ := List.mem_map.1 hc
          exact h ⟨q, hq, e⟩), hk2 t (fun ⟨q, hq, _, e⟩ => h ⟨q, hq, e⟩)]) hgq
    -- what stands once it is done
    have next : ∀ a' w' c st' μ' R', At N st' μ' w' R' (put p.2.d c ρ') a' → Ext st μ w R st' μ' w' R' → (c = v ∧ st' = st) → wpAny P .any ops Q (g + n) (L'.setIfInBounds i true) a' w' := by
      rintro a' w' c st' μ' R' h1 h2 ⟨rfl, rfl⟩
      have hmem' : ∀ q ∈ hs, (q.1 ∉ rem.erase i ↔ (q.1 ∉ rem ∨ q = p)) := fun q hq => by
        rw [List.Nodup.mem_erase_iff hnr]
        constructor
        · intro h
          by_cases hqi : q.1 = i
          · right
            -- no index stands twice
            have : ∀ {l : List (Nat × CO)}, (l.map (·.1)).Nodup → ∀ x ∈ l, ∀ y ∈ l, x.1 = y.1 → x = y := by
              intro l
              induction l with
              | nil => intro _ x hx; cases hx
              | cons z r ih =>
                intro hn x hx y hy e
                simp only [List.map_cons, List.nodup_cons] at hn
                rcases List.mem_cons.1 hx with rfl | hx' <;> rcases List.mem_cons.1 hy with rfl | hy'
                · rfl
                · exact absurd (List.mem_map.2 ⟨y, hy', e.symm⟩ : x.1 ∈ r.map (·.1)) hn.1
                · exact absurd (List.mem_map.2 ⟨x, hx', e⟩ : y.1 ∈ r.map (·.1)) hn.1
                · exact ih hn.2 x hx' y hy' e
            exact this hnd q hq p hp (hqi.trans hpi.symm)
          · left; intro hr; exact h ⟨hqi, hr⟩
        · rintro (h | rfl)
          · intro hr; exact h hr.2
          · intro hr; exact hr.1 hpi
      refine ih (rem.erase i) _ _ μ' w' R' a' (by rw [List.length_erase_of_mem hir, hn]; rfl) (hnr.erase i) (by simp [hL']) (fun j hj => hsub j (List.mem_of_mem_erase hj)) (fun j hj => ?_) (fun j hj => ?_) (fun j hj hl o' ho' e he hb => ?_) (fun k hk => ?_) (fun k hk => ?_) h1 (hx.trans h2)
      · rw [List.Nodup.mem_erase_iff hnr]
        by_cases e : i = j
        · subst e
          have : i < L'.size := by rw [hL']; exact hlt i hj
          simp [this]
        · rw [getD_set_ne true e, ← hiff j hj]
          exact ⟨fun h => h.2, fun h => ⟨Ne.symm e, h⟩⟩
      · rw [getD_set_ne true (fun e => by subst e; exact hj (hsub _ hir))]; exact hout j hj
      · by_cases e' : i = j
        · subst e'
          obtain ⟨_, o2, ho2, hall⟩ := mem_ready.1 hi
          have : o2 = o' := Option.some.inj (ho2.symm.trans ho')
          subst this
          exact getD_set_true (hall e he hb)
        · rw [getD_set_ne false e'] at hl
          exact getD_set_true (hcl j hj hl o' ho' e he hb)
      · obtain ⟨q, hq, hqr, hqk⟩ := hk
        rw [lk_put]
        by_cases e : p.2.d = some k
        · rw [if_pos e, hd k e]
        · rw [if_neg e]
          rcases (hmem' q hq).1 hqr with h | rfl
          · exact hk1 k ⟨q, hq, h, hqk⟩
          · exact absurd hqk e
      · rw [lk_put, if_neg (fun e => hk ⟨p, hp, (hmem' p hp).2 (.inr rfl), e⟩)]
        exact hk2 k (fun ⟨q, hq, h, e⟩ => hk ⟨q, hq, (hmem' q hq).2 (.inl h), e⟩)
    -- and the operation itself
    unfold wpOp
    simp only [ho]
    obtain ⟨_, _, _, hg⟩ := guard_of hstrip
    unfold gQ at hgq'
    rcases hg with ⟨hg, hg'⟩ | ⟨j, b, d, hg, hdj, hN, hg'⟩
    · simp only [hg'] at hgq'
      rw [if_pos (wanted_none hg)]
      exact .inl (opW_wp ha hstrip hgq' next)
    · simp only [hg'] at hgq'
      rcases guard_wanted ha hg hdj hN hgq' with ⟨hw, h⟩ | ⟨hw, rfl⟩
      · rw [if_pos hw]
        exact .inl (opW_wp ha hstrip h next)
      · rw [hw, if_neg (by simp)]
        exact next _ _ _ st μ R (bad_step ha hstrip) (Ext.refl _ _ _ _) ⟨rfl, rfl⟩

/-- Operations in any order: what each keeps. -/
theorem h_gen {Q : Exit → Act → World → Prop} {L : Array Bool} {hs : List (Nat × CO)} (hL : L.size = ops.size) (hmem : ∀ p ∈ hs, ∃ o, ops[p.1]? = some o ∧ stripO N im ops o = some p.2) (hb : hB ops L hs = true)
    {g : Nat} (S : List Nat → Act → World → Prop) (hfin : ∀ a w, S [] a w → wpAny P .any ops Q g (setAll L (hs.map (·.1))) a w)
    (hstep : ∀ rem i a w, rem.Nodup → (∀ j ∈ rem, j ∈ hs.map (·.1)) → i ∈ rem → (∀ j ∈ hs.map (·.1), waits ops i j = true → j ∉ rem) → S rem a w → ∀ K' : Act → World → Prop, (∀ a' w', S (rem.erase i) a' w' → K' a' w') → wpOp P ops Q i K' a w) :
    ∀ (n : Nat) (rem : List Nat) (L' : Array Bool) (a : Act) (w : World), rem.length = n → rem.Nodup → L'.size = ops.size → (∀ i ∈ rem, i ∈ hs.map (·.1)) → (∀ i ∈ hs.map (·.1), (i ∈ rem ↔ L'.getD i true = false)) → (∀ j, j ∉ hs.map (·.1) → L'.getD j true = L.getD j true) →
      (∀ j ∈ hs.map (·.1), L'.getD j false = true → ∀ o, ops[j]? = some o → ∀ e ∈ o.after, Region.binds .any e = true → L'.getD e.on false = true) →
      S rem a w → wpAny P .any ops Q (g + n) L' a w := by
  simp only [hB, Bool.and_eq_true, List.all_eq_true] at hb
  obtain ⟨⟨⟨⟨hnd, hord⟩, hone⟩, hokc⟩, hdata⟩ := hb
  have hnd := nodup_of hnd
  have hlt : ∀ i ∈ hs.map (·.1), i < ops.size := fun i hi => by
    obtain ⟨p, hp, rfl⟩ := List.mem_map.1 hi
    obtain ⟨o, ho, _⟩ := hmem p hp
    exact (Array.getElem?_eq_some_iff.1 ho).1
  have both : ∀ {L' : Array Bool}, L'.size = ops.size → ∀ i, i < ops.size → L'.getD i true = L'.getD i false := fun {L'} h i hi => by
    have : i < L'.size := by rw [h]; exact hi
    simp [this]
  intro n
  induction n with
  | zero =>
    intro rem L' a w hn hnr hL' hsub hiff hout hcl hS
    have hrem : rem = [] := List.length_eq_zero_iff.1 hn
    subst hrem
    have hLeq : L' = setAll L (hs.map (·.1)) := by
      apply Array.ext (by rw [setAll_size, hL', hL])
      intro i h1 h2
      have e1 : L'.getD i true = L'[i] := by simp [h1]
      have e2 : (setAll L (hs.map (·.1))).getD i true = (setAll L (hs.map (·.1)))[i] := by simp [h2]
      rw [← e1, ← e2, setAll_get]
      by_cases hi : i ∈ hs.map (·.1)
      · rw [if_pos ⟨hi, by rw [hL, ← hL']; exact h1⟩]
        have : ¬ L'.getD i true = false := fun h => by have := (hiff i hi).2 h; cases this
        simpa using this
      · rw [if_neg (fun h => hi h.1)]; exact hout i hi
    rw [hLeq]
    exact hfin a w hS
  | succ n ih =>
    intro rem L' a w hn hnr hL' hsub hiff hout hcl hS
    have hle : ∀ k, L.getD k false = true → L'.getD k false = true := fun k hk => by
      have hklt : k < ops.size := by
        rcases Nat.lt_or_ge k L.size with h | h
        · rw [← hL]; exact h
        · simp [Array.getElem?_eq_none h] at hk
      by_cases hi : k ∈ hs.map (·.1)
      · exfalso
        have hu := ord_un hord k hi
        rw [both hL k hklt, hk] at hu
        cases hu
      · rw [← both hL' k hklt, hout k hi, both hL k hklt]; exact hk
    have hready : ∀ j ∈ Region.ready .any ops L', j ∈ rem := fun j hj => by
      have hju := (mem_ready.1 hj).1
      by_cases hjin : j ∈ hs.map (·.1)
      · exact (hiff j hjin).2 hju
      · exfalso
        obtain ⟨i, hi⟩ : ∃ i, i ∈ rem := by
          cases rem with
          | nil => simp at hn
          | cons i r => exact ⟨i, by simp⟩
        have hii := hsub i hi
        have h1 := hone i hii
        have hiu : L'.getD i false = false := by rw [← both hL' i (hlt i hii)]; exact (hiff i hii).1 hi
        have hge := part_ge (ops := ops) (L' := L') hiu (is := hs.map (·.1)) (Lf := L) (Lp := L) hord hcl (fun _ h => h) (fun _ _ h => h) rfl
        have hup : ∀ k, L'.getD k false = true → (part ops i L (hs.map (·.1))).getD k false = true := fun k hk => hge k hk (by
          rw [setAll_get]
          have hklt : k < ops.size := by
            rcases Nat.lt_or_ge k L'.size with h | h
            · rw [← hL']; exact h
            · simp [Array.getElem?_eq_none h] at hk
          by_cases hkin : k ∈ hs.map (·.1)
          · rw [if_pos ⟨hkin, by rw [hL]; exact hklt⟩]
          · have := hout k hkin
            rw [both hL' k hklt, both hL k hklt] at this
            rw [← this, hk]; simp)
        have h2 : j ∈ Region.ready .any ops (part ops i L (hs.map (·.1))) := ready_up hj hup (by
          rw [part_out hjin, ← hout j hjin]; exact hju)
        have := h1 j h2
        exact hjin (by simpa using this)
    have hne : Region.ready .any ops L' ≠ [] := by
      obtain ⟨i, hi⟩ : ∃ i, i ∈ rem := by
        cases rem with
        | nil => simp at hn
        | cons i r => exact ⟨i, by simp⟩
      obtain ⟨k, _, hk⟩ := ord_ready hord hle ⟨i, hsub i hi, (hiff i (hsub i hi)).1 hi⟩ (fun i hi h => by rw [← both hL' i (hlt i hi)]; exact h)
      intro e
      rw [e] at hk; cases hk
    refine ⟨fun h => absurd h hne, fun i hi => ?_⟩
    have hir := hready i hi
    obtain ⟨p, hp, hpi⟩ := List.mem_map.1 (hsub i hir)
    obtain ⟨o, ho, hstrip⟩ := hmem p hp
    rw [hpi] at ho
    refine hstep rem i a w hnr hsub hir (fun j hj hw hjr => ?_) hS _ fun a' w' hS' => ?_
    · unfold waits at hw
      rw [ho] at hw
      simp only at hw
      obtain ⟨e, he, hbe⟩ := Array.any_eq_true'.1 hw
      simp only [Bool.and_eq_true, beq_iff_eq] at hbe
      obtain ⟨_, o', ho', hall⟩ := mem_ready.1 hi
      have : o' = o := Option.some.inj (ho'.symm.trans ho)
      subst this
      have h1 := hall e he hbe.1
      rw [hbe.2, ← both hL' j (hlt j hj), (hiff j hj).1 hjr] at h1
      cases h1
    · refine ih (rem.erase i) _ a' w' (by rw [List.length_erase_of_mem hir, hn]; rfl) (hnr.erase i) (by simp [hL']) (fun j hj => hsub j (List.mem_of_mem_erase hj)) (fun j hj => ?_) (fun j hj => ?_) (fun j hj hl o' ho' e he hb => ?_) hS'
      · rw [List.Nodup.mem_erase_iff hnr]
        by_cases e : i = j
        · subst e
          have : i < L'.size := by rw [hL']; exact hlt i hj
          simp [this]
        · rw [getD_set_ne true e, ← hiff j hj]
          exact ⟨fun h => h.2, fun h => ⟨Ne.symm e, h⟩⟩
      · rw [getD_set_ne true (fun e => by subst e; exact hj (hsub _ hir))]; exact hout j hj
      · by_cases e' : i = j
        · subst e'
          obtain ⟨_, o2, ho2, hall⟩ := mem_ready.1 hi
          have : o2 = o' := Option.some.inj (ho2.symm.trans ho')
          subst this
          exact getD_set_true (hall e he hb)
        · rw [getD_set_ne false e'] at hl
          exact getD_set_true (hcl j hj hl o' ho' e he hb)

theorem stepsN_mem : ∀ {is : List (Bool × Nat)} {hs : List (Nat × Bool × CO)}, stepsN N im ops is = some hs → (hsOf hs).map (·.1) = is.map (·.2) ∧ ∀ p ∈ hsOf hs, ∃ o, ops[p.1]? = some o ∧ stripO N im ops o = some p.2
  | [], hs, h => by simp only [stepsN, Option.some.injEq] at h; subst h; exact ⟨rfl, fun p hp => by cases hp⟩
  | (b, i) :: r, hs, h => by
    simp only [stepsN] at h
    split at h
    · rename_i c cs h1 h2
      cases h
      obtain ⟨e1, e2⟩ := stepsN_mem h2
      refine ⟨by simp only [hsOf, List.map_cons] at *; rw [e1], fun p hp => ?_⟩
      simp only [hsOf, List.map_cons, List.mem_cons] at hp
      rcases hp with rfl | hp
      · unfold stepO at h1
        cases ho : ops[i]? with
        | none => simp [ho] at h1
        | some o => exact ⟨o, rfl, by simpa [ho] using h1⟩
      · exact e2 p hp
    · cases h

/-- What stands within a group with kept places: what is done, what not. -/
def InN (N : Nat) (hs : List (Nat × Bool × CO)) (T : Nat) (BF : List Blk) (ρ ρF : Env) (st : Store) (μ0 : List Mu) (w0 : World) (R0 : Nat → Prop) (rem : List Nat) (a : Act) (w : World) : Prop :=
  ∃ (l : Store) (μ : List Mu) (R : Nat → Prop) (ρ' : Env), l.length = T ∧ (∀ e ∈ ents hs 0, e.2.2.1 = true → (e.1 ∈ rem → l[e.2.1]? = some ph) ∧ (e.1 ∉ rem → l[e.2.1]? = BF[e.2.1]?)) ∧
    (∀ k, (∃ p ∈ hsOf hs, p.1 ∉ rem ∧ p.2.d = some k) → lk ρ' k = lk ρF k) ∧ (∀ k, (¬ ∃ p ∈ hsOf hs, p.1 ∉ rem ∧ p.2.d = some k) → lk ρ' k = lk ρ k) ∧ At N (st ++ l) μ w R ρ' a ∧ Ext st μ0 w0 R0 (st ++ l) μ w R

theorem ents_mem {hs : List (Nat × Bool × CO)} {p : Nat × CO} (hp : p ∈ hsOf hs) : ∃ e ∈ ents hs 0, e.1 = p.1 ∧ e.2.2.2 = p.2 := by
  obtain ⟨q, hq, rfl⟩ := List.mem_map.1 hp
  rw [← ents_map hs 0] at hq
  obtain ⟨e, he, rfl⟩ := List.mem_map.1 hq
  exact ⟨e, he, rfl, rfl⟩

theorem ents_of {hs : List (Nat × Bool × CO)} {e : Nat × Nat × Bool × CO} (he : e ∈ ents hs 0) : (e.1, e.2.2.2) ∈ hsOf hs := by
  have : (e.1, e.2.2) ∈ hs := by
    rw [← ents_map hs 0]; exact List.mem_map.2 ⟨e, he, rfl⟩
  exact List.mem_map.2 ⟨_, this, rfl⟩

theorem nodup_key {β : Type} : ∀ {l : List (Nat × β)}, (l.map (·.1)).Nodup → ∀ x ∈ l, ∀ y ∈ l, x.1 = y.1 → x = y := by
  intro l
  induction l with
  | nil => intro _ x hx; cases hx
  | cons z r ih =>
    intro hn x hx y hy e
    simp only [List.map_cons, List.nodup_cons] at hn
    rcases List.mem_cons.1 hx with rfl | hx' <;> rcases List.mem_cons.1 hy with rfl | hy'
    · rfl
    · exact absurd (List.mem_map.2 ⟨y, hy', e.symm⟩ : x.1 ∈ r.map (·.1)) hn.1
    · exact absurd (List.mem_map.2 ⟨x, hx', e⟩ : y.1 ∈ r.map (·.1)) hn.1
    · exact ih hn.2 x hx' y hy' e

theorem set_same {α : Type} {l : List α} {i : Nat} {x : α} (h : l[i]? = some x) : l.set i x = l := by
  apply List.ext_getElem?
  intro j
  rw [List.getElem?_set]
  split
  · rename_i e; subst e; split
    · exact h.symm
    · rename_i hn; rw [List.getElem?_eq_none (by omega)]
  · rfl

theorem n_step {Q : Exit → Act → World → Prop} {hs : List (Nat × Bool × CO)} {L : Array Bool} (hmem : ∀ p ∈ hsOf hs, ∃ o, ops[p.1]? = some o ∧ stripO N im ops o = some p.2) (hb : hB ops L (hsOf hs) = true) {st : Store} {ρ ρF : Env} {BF : List Blk}
    (hBF : BF.length = cntA (hs.map (·.2))) (hF1 : ∀ k, (∀ c ∈ (hsOf hs).map (·.2), c.d ≠ some k) → lk ρF k = lk ρ k) (hF2 : ∀ e ∈ ents hs 0, NF P (cntA (hs.map (·.2))) e.2.2 ρF st e.2.1 BF) {μ0 : List Mu} {w0 : World} {R0 : Nat → Prop}
    (rem : List Nat) (i : Nat) (a : Act) (w : World) (hnr : rem.Nodup) (hsub : ∀ j ∈ rem, j ∈ (hsOf hs).map (·.1)) (hir : i ∈ rem) (hwt : ∀ j ∈ (hsOf hs).map (·.1), waits ops i j = true → j ∉ rem)
    (hS : InN N hs (cntA (hs.map (·.2))) BF ρ ρF st μ0 w0 R0 rem a w) (K' : Act → World → Prop) (hK : ∀ a' w', InN N hs (cntA (hs.map (·.2))) BF ρ ρF st μ0 w0 R0 (rem.erase i) a' w' → K' a' w') : wpOp P ops Q i K' a w := by
  simp only [hB, Bool.and_eq_true, List.all_eq_true] at hb
  obtain ⟨⟨⟨⟨hnd, hord⟩, hone⟩, hokc⟩, hdata⟩ := hb
  have hnd := nodup_of hnd
  generalize hT : cntA (hs.map (·.2)) = T at *
  obtain ⟨l, μ, R, ρ', hl, hsl, hk1, hk2, ha, hx⟩ := hS
  obtain ⟨p, hp, hpi⟩ := List.mem_map.1 (hsub i hir)
  obtain ⟨o, ho, hstrip⟩ := hmem p hp
  rw [hpi] at ho
  obtain ⟨e, he, hei, hec⟩ := ents_mem hp
  have hei : e.1 = i := hei.trans hpi
  obtain ⟨v, hgq, hd⟩ := hF2 e he
  rw [hec] at hd
  -- the keys
  have hkey : ∀ e' ∈ ents hs 0, e'.1 = i → e' = e := fun e' he' h => by
    have h1 : ((ents hs 0).map (·.1)).Nodup := by
      have : (ents hs 0).map (·.1) = (hsOf hs).map (·.1) := by
        have := congrArg (fun l => l.map (·.1)) (ents_map hs 0)
        simp only [List.map_map, Function.comp_def] at this
        simp only [hsOf, List.map_map, Function.comp_def]
        exact this
      rw [this]; exact hnd
    exact nodup_key h1 e' he' e he (h.trans hei.symm)
  have hmem' : ∀ q ∈ hsOf hs, (q.1 ∉ rem.erase i ↔ (q.1 ∉ rem ∨ q = p)) := fun q hq => by
    rw [List.Nodup.mem_erase_iff hnr]
    constructor
    · intro h
      by_cases hqi : q.1 = i
      · exact .inr (nodup_key hnd q hq p hp (hqi.trans hpi.symm))
      · left; intro hr; exact h ⟨hqi, hr⟩
    · rintro (h | rfl)
      · intro hr; exact h hr.2
      · intro hr; exact hr.1 hpi
  -- its operands are as they will be
  have hreads : ∀ t ∈ e.2.2.2.reads, lk ρF t = lk ρ' t := fun t ht => by
    rw [hec] at ht
    by_cases h : ∃ q ∈ hsOf hs, q.2.d = some t
    · obtain ⟨q, hq, hqt⟩ := h
      have hw := hdata p hp q hq
      rw [hqt] at hw
      simp only [Bool.or_eq_true, Bool.not_eq_true'] at hw
      have hw : waits ops p.1 q.1 = true := by
        rcases hw with hw | hw
        · have : p.2.reads.contains t = true := by simpa using ht
          rw [this] at hw; cases hw
        · exact hw
      rw [hpi] at hw
      exact (hk1 t ⟨q, hq, hwt q.1 (List.mem_map.2 ⟨q, hq, rfl⟩) hw, hqt⟩).symm
    · rw [hF1 t (fun c hc e => by
        obtain ⟨q, hq, rfl⟩ := List.mem_map.1 hc
        exact h ⟨q, hq, e⟩), hk2 t (fun ⟨q, hq, _, e⟩ => h ⟨q, hq, e⟩)]
  have hgq' := NF_congr hreads hgq
  rw [hec] at hgq'
  -- what stands once it is done, its answer v in its slot
  have next : ∀ (l' : Store) a' w' μ' R' (ρ'' : Env), (∀ k, lk ρ'' k = lk (put p.2.d v ρ') k) → l'.length = T → (e.2.2.1 = true → l' = l.set e.2.1 ((BF[e.2.1]?).getD ph)) → (e.2.2.1 = false → l' = l) → At N (st ++ l') μ' w' R' ρ'' a' → Ext st μ0 w0 R0 (st ++ l') μ' w' R' → K' a' w' := fun l' a' w' μ' R' ρ'' hρ'' hl' hA hB' h1 h2 => by
    refine hK a' w' ⟨l', μ', R', ρ'', hl', fun e' he' hf => ?_, fun k hk => ?_, fun k hk => ?_, h1, h2⟩
    · have hlt : e'.2.1 < T := by have := (ents_bd hs 0 e' he').2 hf; rw [hT] at this; omega
      by_cases hee : e' = e
      · subst hee
        refine ⟨fun h => absurd hei (by rw [List.Nodup.mem_erase_iff hnr] at h; exact h.1), fun _ => ?_⟩
        rw [hA hf, List.getElem?_set_self (by omega)]
        rw [List.getElem?_eq_getElem (by omega : e'.2.1 < BF.length)]; rfl
      · have hne : e'.1 ≠ i := fun h => hee (hkey e' he' h)
        have hsame : l'[e'.2.1]? = l[e'.2.1]? := by
          cases hfe : e.2.2.1 with
          | true =>
            rw [hA hfe, List.getElem?_set_ne (fun h => hee (ents_inj hs 0 e' he' e he hf hfe h.symm))]
          | false => rw [hB' hfe]
        rw [hsame]
        have hold := hsl e' he' hf
        exact ⟨fun h => hold.1 (List.mem_of_mem_erase h), fun h => hold.2 (fun hr => h ((List.Nodup.mem_erase_iff hnr).2 ⟨hne, hr⟩))⟩
    · obtain ⟨q, hq, hqr, hqk⟩ := hk
      rw [hρ'', lk_put]
      by_cases e2 : p.2.d = some k
      · rw [if_pos e2, hd k e2]
      · rw [if_neg e2]
        rcases (hmem' q hq).1 hqr with h | rfl
        · exact hk1 k ⟨q, hq, h, hqk⟩
        · exact absurd hqk e2
    · rw [hρ'', lk_put, if_neg (fun e2 => hk ⟨p, hp, (hmem' p hp).2 (.inr rfl), e2⟩)]
      exact hk2 k (fun ⟨q, hq, h, e2⟩ => hk ⟨q, hq, (hmem' q hq).2 (.inl h), e2⟩)
  -- passed over
  have skip : v = .un ∧ (e.2.2.1 = true → BF[e.2.1]? = some ph) → K' (a.put o.dst undef) w := fun ⟨hv, hph⟩ => by
    have h1 := bad_step (im := im) (ops := ops) ha hstrip
    refine next l _ w μ R _ (fun k => ?_) hl (fun hf => ?_) (fun _ => rfl) h1 hx
    · rw [hv]
    · rw [hph hf, Option.getD_some]
      have := (hsl e he hf).1 (by rw [hei]; exact hir)
      exact (set_same this).symm
  -- carried out
  have act : ((e.2.2.1 = true ∧ ∃ mk b, addN P T ρ' st p.2.o mk b ∧ v = mkV mk (st.length + e.2.1) 1 ∧ BF[e.2.1]? = some { b with ver := 1 }) ∨ (e.2.2.1 = false ∧ pureN P T ρ' st p.2.o v)) → o.wp P a w K' Q := by
    rintro (⟨hf, mk, b, hadd, hv, hbf⟩ | ⟨hf, hpure⟩)
    · obtain ⟨hb0, hbv, hbu, hop⟩ := hadd
      have hlt : e.2.1 < T := by have := (ents_bd hs 0 e he).2 hf; rw [hT] at this; omega
      refine opW_wp ha hstrip (hop l hl) fun a' w' c' st' μ' R' h1 h2 ⟨hc, hst⟩ => ?_
      subst hc hst
      have hSl : (st ++ l).length = st.length + T := by rw [List.length_append, hl]
      have hphs : (st ++ l)[st.length + e.2.1]? = some ph := by
        rw [List.getElem?_append_right (by omega), Nat.add_sub_cancel_left]
        exact (hsl e he hf).1 (by rw [hei]; exact hir)
      obtain ⟨μ2, g1, g2, g3, g4⟩ := place_ok ha.ok h1.ok h2 hbv hphs (by rw [hSl]; exact hbu)
      have hset : (st ++ l).set (st.length + e.2.1) { b with ver := 1 } = st ++ l.set e.2.1 { b with ver := 1 } := by
        rw [List.set_append_right _ _ (by omega), Nat.add_sub_cancel_left]
      rw [hset] at g1 g2 g3 g4
      rw [hSl] at g3
      refine next (l.set e.2.1 { b with ver := 1 }) a' w' μ2 R' (put p.2.d (mkV mk (st.length + e.2.1) 1) ρ') (fun k => by rw [hv]) (by simpa using hl) (fun _ => by rw [hbf]; rfl) (fun h => by rw [hf] at h; cases h) ⟨g1, fun k => ?_, h1.size, h1.defers⟩ (hx.trans g2)
      rw [lk_put]
      by_cases e2 : p.2.d = some k
      · rw [if_pos e2]
        have := h1.env k
        rw [lk_put, if_pos e2] at this
        exact g3 mk _ this
      · rw [if_neg e2]
        have := h1.env k
        rw [lk_put, if_neg e2] at this
        have hu := (ha.env k).under (m := (st ++ l).length) (Nat.le_refl _)
        exact g4 _ _ this hu
    · have hframe : opW P ρ' (st ++ l) p.2.o fun v' st' => v' = v ∧ st' = st ++ l := by
        unfold pureN at hpure
        cases hc : callO p.2.o with
        | true => rw [hc] at hpure; exact hpure l hl
        | false =>
          rw [hc] at hpure
          exact opW_frame hpure.1 (fun v' h => ⟨h.1, rfl⟩) hpure.2
      refine opW_wp ha hstrip hframe fun a' w' c' st' μ' R' h1 h2 ⟨hc, hst⟩ => ?_
      subst hc hst
      exact next l a' w' μ' R' _ (fun k => rfl) hl (fun h => by rw [hf] at h; cases h) (fun _ => rfl) h1 (hx.trans h2)
  unfold wpOp
  simp only [ho]
  obtain ⟨_, _, _, hg⟩ := guard_of hstrip
  unfold gN at hgq'
  rcases hg with ⟨hg, hg'⟩ | ⟨j, b, d, hg, hdj, hN, hg'⟩
  · simp only [hg'] at hgq'
    rw [if_pos (wanted_none hg)]
    exact .inl (act hgq')
  · simp only [hg'] at hgq'
    rcases guard_wanted ha hg hdj hN hgq' with ⟨hw, h⟩ | ⟨hw, h⟩
    · rw [if_pos hw]
      exact .inl (act h)
    · rw [hw, if_neg (by simp)]
      exact skip h

theorem d_sound {Q : Exit → Act → World → Prop} (hQ : ∀ c a w, ¬ Q (.panic c) a w) : ∀ (ds : DS) (b : Bool) (L : Array Bool) (dc : DC), dchk N im ops b ds L = some dc → L.size = ops.size → ∀ (fuel : Nat), ds.cnt ≤ fuel →
    ∀ {st : Store} {μ : List Mu} {w : World} {R : Nat → Prop} {ρ : Env} {a : Act} {K : Env → Store → Prop}, At N st μ w R ρ a → dW P dc ρ st K → (∀ a' w', Post N st μ w R K a' w' → Q .normal a' w') →
      (b = false → wpAny P .any ops Q fuel L a w) ∧ ∀ i ∈ ds.alts, wpOp P ops Q i (wpAny P .any ops Q (fuel - 1) (L.setIfInBounds i true)) a w := by
  intro ds
  induction ds with
  | dn =>
    intro b L dc hd hL fuel hf st μ w R ρ a K ha h hK
    cases b <;> simp only [dchk] at hd
    · split at hd
      · rename_i hr
        cases hd
        refine ⟨fun _ => wpAny_done (by simpa using hr) (hK a w ⟨ρ, st, μ, R, ha, Ext.refl _ _ _ _, h⟩) _, fun i hi => by cases hi⟩
      · cases hd
    · cases hd
  | nx =>
    intro b L dc hd hL fuel hf st μ w R ρ a K ha h hK
    refine ⟨fun e => ?_, fun i hi => by cases hi⟩
    subst e
    simp [dchk] at hd
  | e i r ih =>
    intro b L dc hd hL fuel hf st μ w R ρ a K ha h hK
    cases b <;> simp only [dchk] at hd
    · split at hd
      · rename_i hc
        simp only [Bool.and_eq_true] at hc
        obtain ⟨⟨hns, hfree⟩, hrd⟩ := hc
        split at hd
        · rename_i co d h1 h2
          split at hd
          · rename_i hst
            cases hd
            refine ⟨fun _ => ?_, fun i hi => by cases hi⟩
            obtain ⟨o, ho⟩ : ∃ o, ops[i]? = some o := by
              unfold stepO at h1
              cases ho : ops[i]? with
              | none => simp [ho] at h1
              | some o => exact ⟨o, rfl⟩
            have hstrip : stripO N im ops o = some co := by unfold stepO at h1; simpa [ho] using h1
            obtain ⟨v, c, hy, hat, hk⟩ := gW_still ha hstrip hst h
            obtain ⟨f, rfl⟩ : ∃ f, fuel = f + 1 := ⟨fuel - 1, by simp only [DS.cnt] at hf; omega⟩
            exact wpAny_take ho hns hfree hrd (fun c a w h => absurd h (hQ c _ w)) hy ((ih false _ d h2 (by simp [hL]) f (by simp only [DS.cnt] at hf; omega) hat hk hK).1 rfl)
          · cases hd
        · cases hd
      · cases hd
    · cases hd
  | h is r ih =>
    intro b L dc hd hL fuel hf st μ w R ρ a K ha h hK
    cases b <;> simp only [dchk] at hd
    · split at hd
      · rename_i hs d h1 h2
        split at hd
        · rename_i hb
          cases hd
          refine ⟨fun _ => ?_, fun i hi => by cases hi⟩
          obtain ⟨e1, hmem⟩ := stepsO_mem h1
          have hokc : okc (hs.map (·.2)) = true := by
            simp only [hB, Bool.and_eq_true] at hb; exact hb.1.2
          have hnd : (hs.map (·.1)).Nodup := by
            simp only [hB, Bool.and_eq_true] at hb; exact nodup_of hb.1.1.1.1
          obtain ⟨ρF, f1, f2, f3⟩ := hW_facts hokc h
          simp only [DS.cnt] at hf
          have hun : ∀ i ∈ hs.map (·.1), L.getD i true = false := by
            simp only [hB, Bool.and_eq_true] at hb
            exact ord_un hb.1.1.1.2
          have hun' : ∀ i ∈ hs.map (·.1), L.getD i false = false := fun i hi => by
            have := hun i hi
            have hlt : i < L.size := by
              rcases Nat.lt_or_ge i L.size with h | h
              · exact h
              · simp [Array.getElem?_eq_none h] at this
            simp [hlt] at this ⊢; exact this
          have := h_sound (P := P) (Q := Q) (g := fuel - is.length) (ρ := ρ) hL hmem hb f2 f3 (st0 := st) (μ0 := μ) (w0 := w) (R0 := R) (fun a' w' μ' R' hat hx => by
            rw [e1]
            exact (ih false _ d h2 (by rw [setAll_size]; exact hL) _ (by omega) hat f1 (fun a'' w'' hp => hK a'' w'' (Post.trans hx hp))).1 rfl)
            is.length (hs.map (·.1)) L ρ μ w R a (by rw [e1]) hnd hL (fun i hi => hi) (fun i hi => ⟨fun _ => hun i hi, fun _ => hi⟩) (fun j hj => rfl) (fun j hj h => by rw [hun' j hj] at h; cases h)
            (fun k ⟨p, hp, hn, _⟩ => absurd (List.mem_map.2 ⟨p, hp, rfl⟩) hn) (fun k _ => rfl) ha (Ext.refl _ _ _ _)
          rw [show fuel - is.length + is.length = fuel by omega] at this
          exact this
        · cases hd
      · cases hd
    · cases hd
  | n is r ih =>
    intro b L dc hd hL fuel hf st μ w R ρ a K ha h hK
    cases b <;> simp only [dchk] at hd
    · split at hd
      · rename_i hs d h1 h2
        split at hd
        · rename_i hb
          cases hd
          refine ⟨fun _ => ?_, fun i hi => by cases hi⟩
          obtain ⟨e1, hmem⟩ := stepsN_mem h1
          have hm2 : (hsOf hs).map (·.2) = hs.map (·.2.2) := by simp only [hsOf, List.map_map, Function.comp_def]
          have hokc : okc (hs.map (·.2.2)) = true := by
            rw [← hm2]
            simp only [hB, Bool.and_eq_true] at hb; exact hb.1.2
          have hnd : ((hsOf hs).map (·.1)).Nodup := by
            simp only [hB, Bool.and_eq_true] at hb; exact nodup_of hb.1.1.1.1
          simp only [dW] at h
          obtain ⟨ρF, BF, f1, f2, f3, f4⟩ := nW_facts hokc h
          simp only [List.nil_append] at f1 f4
          simp only [DS.cnt] at hf
          have hun : ∀ i ∈ (hsOf hs).map (·.1), L.getD i true = false := by
            simp only [hB, Bool.and_eq_true] at hb
            exact ord_un hb.1.1.1.2
          have hun' : ∀ i ∈ (hsOf hs).map (·.1), L.getD i false = false := fun i hi => by
            have := hun i hi
            have hlt : i < L.size := by
              rcases Nat.lt_or_ge i L.size with h | h
              · exact h
              · simp [Array.getElem?_eq_none h] at this
            simp [hlt] at this ⊢; exact this
          have hlen : ((hsOf hs).map (·.1)).length = is.length := by rw [e1]; simp
          obtain ⟨p1, p2⟩ := push_phs ha.ok (cntA (hs.map (·.2)))
          have := h_gen (P := P) (Q := Q) (g := fuel - is.length) (im := im) (N := N) hL hmem hb (InN N hs (cntA (hs.map (·.2))) BF ρ ρF st μ w R)
            (fun a' w' ⟨l, μ', R', ρ', hl, hsl, hk1, hk2, hat, hx⟩ => by
              have hlB : l = BF := by
                apply List.ext_getElem?
                intro q
                by_cases hq : q < cntA (hs.map (·.2))
                · obtain ⟨e, he, hef, heq⟩ := ents_cov hs 0 q (Nat.zero_le _) (by omega)
                  have := (hsl e he hef).2 (by simp)
                  rw [heq] at this; exact this
                · rw [List.getElem?_eq_none (by omega), List.getElem?_eq_none (by omega)]
              have hlk : ∀ k, lk ρ' k = lk ρF k := fun k => by
                by_cases h : ∃ p ∈ hsOf hs, p.1 ∉ ([] : List Nat) ∧ p.2.d = some k
                · exact hk1 k h
                · rw [hk2 k h, f3 k]
                  intro c hc e
                  rw [← hm2] at hc
                  obtain ⟨p, hp, rfl⟩ := List.mem_map.1 hc
                  exact h ⟨p, hp, by simp, e⟩
              rw [hlB] at hat hx
              rw [e1]
              exact (ih false _ d h2 (by rw [setAll_size]; exact hL) _ (by omega) ⟨hat.ok, fun k => by rw [← hlk k]; exact hat.env k, hat.size, hat.defers⟩ f1 (fun a'' w'' hp => hK a'' w'' (Post.trans hx hp))).1 rfl)
            (fun rem i a' w' hnr hsub hir hwt hS K' hK' => n_step hmem hb f2 (fun k hk => f3 k (by rw [← hm2]; exact hk)) f4 rem i a' w' hnr hsub hir hwt hS K' hK')
            is.length ((hsOf hs).map (·.1)) L a w hlen hnd hL (fun i hi => hi) (fun i hi => ⟨fun _ => hun i hi, fun _ => hi⟩) (fun j hj => rfl) (fun j hj h => by rw [hun' j hj] at h; cases h)
            ⟨List.replicate (cntA (hs.map (·.2))) ph, _, R, ρ, by simp, fun e he hef => ⟨fun _ => by
              have := (ents_bd hs 0 e he).2 hef
              rw [List.getElem?_replicate, if_pos (by omega)], fun hn => absurd (List.mem_map.2 ⟨_, ents_of he, rfl⟩) hn⟩,
              fun k ⟨p, hp, hn, _⟩ => absurd (List.mem_map.2 ⟨p, hp, rfl⟩) hn, fun k _ => rfl, ⟨p1, ha.env.ext ha.ok p2, ha.size, ha.defers⟩, p2⟩
          rw [show fuel - is.length + is.length = fuel by omega] at this
          exact this
        · cases hd
      · cases hd
    · cases hd
  | a i r o ihr iho =>
    intro b L dc hd hL fuel hf st μ w R ρ a K ha h hK
    have hd' : ∃ co x y, (b = true ∨ DS.alts (.a i r o) = Region.ready .any ops L) ∧ stepO N im ops i = some co ∧ dchk N im ops false r (L.setIfInBounds i true) = some x ∧ dchk N im ops true o L = some y ∧ dc = .a co x y := by
      cases b <;> simp only [dchk, Bool.false_or, Bool.true_or, if_true] at hd
      · split at hd
        · rename_i hc
          split at hd
          · rename_i co x y h1 h2 h3
            cases hd
            exact ⟨co, x, y, .inr (by simpa using hc), h1, h2, h3, rfl⟩
          · cases hd
        · cases hd
      · split at hd
        · rename_i co x y h1 h2 h3
          cases hd
          exact ⟨co, x, y, .inl rfl, h1, h2, h3, rfl⟩
        · cases hd
    obtain ⟨co, x, y, hc, h1, h2, h3, rfl⟩ := hd'
    simp only [dW] at h
    obtain ⟨o', ho⟩ : ∃ o, ops[i]? = some o := by
      unfold stepO at h1
      cases ho : ops[i]? with
      | none => simp [ho] at h1
      | some o => exact ⟨o, rfl⟩
    have hstrip : stripO N im ops o' = some co := by unfold stepO at h1; simpa [ho] using h1
    simp only [DS.cnt] at hf
    have all : ∀ j ∈ DS.alts (.a i r o), wpOp P ops Q j (wpAny P .any ops Q (fuel - 1) (L.setIfInBounds j true)) a w := fun j hj => by
      rcases List.mem_cons.1 hj with rfl | hj
      · exact gW_sound ha ho hstrip h.1 fun a' w' ρ' st' μ' R' hat hx hk =>
          (ihr false _ x h2 (by simp [hL]) _ (by omega) hat hk (fun a'' w'' hp => hK a'' w'' (Post.trans hx hp))).1 rfl
      · exact (iho true L y h3 hL fuel (by omega) ha h.2 hK).2 j hj
    refine ⟨fun hb => ?_, all⟩
    rcases hc with hc | hc
    · rw [hb] at hc; cases hc
    · obtain ⟨f, rfl⟩ : ∃ f, fuel = f + 1 := ⟨fuel - 1, by omega⟩
      exact wpAny_all hc.symm (by simp [DS.alts]) all

end

end Go.VS
