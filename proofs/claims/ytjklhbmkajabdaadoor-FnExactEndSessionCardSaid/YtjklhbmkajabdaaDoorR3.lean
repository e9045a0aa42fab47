/- For every session the law on ending a session answers true, and its argument reads behind the call as before: the tied card.
   Conditions: as the row's cells say: two listed variables of the library hold what the card lists (tied to the pruned copy of the program's text); nothing else narrows the input. -/
import Derived.Test.YtjklhbmkajabdaaDoorR2
import Derived.Test.YtjklhbmkajabdaaDoorCards
import Derived.Test.YtjklhbmkajabdaaDoorTie
import Derived.Carry
import Derived.Lay
import Derived.SevenTiedAt
set_option linter.all false
namespace Go.Proofs.YtjklhbmkajabdaaDoor
open Go Go.RowKit Go.ChangeShapes Go.WideShapes Go.ChangeAt Go.VS

/-- What the law answers, and that it leaves what was there. -/
theorem s_law {W : World} {cs : List Value} {n base : Nat} {H : Type} {enc : TypeId × Value → H} {x : DataW H × List MemPlace} (hok : Row.okWide Tryd.prog W .any base 28 cs.toArray)
    (h : DataW.trod enc Tryd.prog W 0 (fun _ => true) true n 28 cs = some x) (hlt : ∀ p ∈ x.2, p.block < W.heap.size) (hL : laidMet Tryd.prog Rows.fnExactEndSessionRow.laid W) :
    Calls Tryd.prog 3 #[.agg cs.toArray] W fun e W' => e = .returned (.bool true) ∧ Below W.heap.size W W' := by
  have hs := sok_start (R := fun b => ∃ p ∈ x.2, p.block = b) (fun b ⟨p, hp, e⟩ => e ▸ hlt p hp) hL
  obtain ⟨s, hr, l1, l2, l3⟩ := read_session (R := fun b => (∃ p ∈ x.2, p.block = b) ∨ b = 0 ∨ b = 1) hok h (fun p hp => .inl ⟨p, hp, rfl⟩)
  have k := (s_main s l1 l2 l3 (st := []) (K := fun r _ => r = .x (.bool true)) rfl).2 [] W _ [.agg cs.toArray] hs rfl (fun k c v hc hv => by
    match k, hc, hv with
    | 0, hc, hv => simp at hc hv; subst hc; subst hv; exact .imm hr
    | k + 1, hc, hv => simp at hc)
  refine k.mono fun e W' ⟨r, val, st', μ', R', he, hx, _, hv, hr⟩ => ?_
  subst hr
  refine ⟨?_, ⟨hx.os, hx.tape, hx.output, hx.size, fun b hb => hx.keep b hb (fun ⟨i, k, m, hk, _⟩ => by simp at hk)⟩⟩
  cases hv with
  | imm hv => cases hv; exact he

theorem own : ownKnob Tryd.prog.godebug = none := by kernel_rfl
theorem laidOut : laidOutB Tryd.prog = true := by kernel_rfl

set_option maxRecDepth 100000 in
theorem lifted (os : Os) (started : os.Started) (H : Type) (enc : TypeId × Value → H) :
    ReturnsInHanded {} Tryd.checked os 3 .any (fun w args => (Rows.fnExactEndSessionSpec.pre enc Tryd.prog Tryd.f3 [] false w args ∧ laidMetH Tryd.prog Rows.fnExactEndSessionRow.laid w) ∧ sizedMet enc Tryd.prog Tryd.f3 (OpenSpec.ofChange Rows.fnExactEndSessionSpec) false w args)
      (Rows.fnExactEndSessionSpec.post enc Tryd.prog Tryd.f3 false true false false) := by
  refine returnsInHanded_of_change_and (C := Tryd.checked) (X := fun w _ => laidMetH Tryd.prog Rows.fnExactEndSessionRow.laid w) (fun _ _ _ hh h => h.of_heap hh) own started (by kernel_rfl) Tryd.func3
    (ChangeSpec.witness_shaped (enc := enc) (C := Tryd.checked) (os := os) (X := fun w _ => laidMetH Tryd.prog Rows.fnExactEndSessionRow.laid w) false (World.laidAll Tryd.prog os Rows.fnExactEndSessionRow.laid)
      #[.agg #[.int .i64 0, .int .i64 0, .int .i64 0, .string ByteArray.empty, .int .i64 0, .slice none 0 0, .slice none 0 0, .int .i64 0, .bool false]] 8 (World.laidAll_os _ _ _)
      (World.shaped_of_ZipB (by kernel_rfl) (by kernel_rfl)) (by kernel_rfl) (by kernel_rfl) (by kernel_rfl)
      (by rw [MakeChecks.laidMetH_plain _ _ _ (by kernel_rfl)]; exact laidMet_laidAll _ (by kernel_rfl) (by kernel_rfl))) ?_
  intro W base args ds gs before hval0 hW _ _ hL _
  have hval : ∀ (j : Nat) t v, Tryd.f3.params[j]? = some t → args[j]? = some v → Value.okWide Tryd.prog W .any base t v := hval0
  have hW' := hW
  obtain ⟨p, q, hA0, hV, rfl, _, _⟩ := hW
  have hA : DataW.TrodAll enc Tryd.prog W 0 (fun _ => true) true Tryd.f3.params.toList args.toList ds p := hA0
  rw [Tryd.params3] at hA hval
  obtain ⟨v0, d0, hargs, rfl, h0⟩ := trodAll_one hA
  obtain rfl : args = #[v0] := hargs
  obtain ⟨rfl, rfl⟩ := trodVars_none hV
  have ok0 := hval 0 28 v0 rfl rfl
  unfold Value.okWide at ok0
  rw [Tryd.underlying28] at ok0
  obtain ⟨cs, rfl, _, hrow⟩ := ok0
  obtain ⟨fuel, h1⟩ := h0
  have hcs : (Value.agg cs).cells.toList = cs.toList := rfl
  rw [hcs] at h1
  have hlt : ∀ x ∈ p, x.block < W.heap.size := fun x hx => DataW.trod_lt fuel 28 cs.toList _ h1 x hx
  rw [MakeChecks.laidMetH_plain _ _ _ (by kernel_rfl)] at hL
  refine (s_law (cs := cs.toList) (by simpa using hrow) h1 hlt hL).mono fun e W' ⟨he, hb⟩ => ?_
  subst he
  exact ⟨_, rfl, _, _, _, [], p, [], hW', trodAll_mk1 (shut_bool Tryd.underlying4 _), trodAll_mk1 (Below.trod laidOut (by kernel_rfl) (of_decide_eq_true (by kernel_rfl)) ⟨fuel, by rw [hcs]; exact h1⟩ hb hlt), rfl, hb.frame _, fun h => by cases h⟩

theorem holds : Rows.FnExactEndSessionSaid :=
  OpenClaim.holds_of_wide 3 Tryd.f3 rfl rfl rfl rfl rfl rfl rfl ⟨rfl, rfl, rfl, rfl, rfl⟩ rfl rfl rfl rfl rfl (by kernel_rfl) Tryd.func3 (by kernel_rfl)
    (of_decide_eq_true (by kernel_rfl)) (by unfold Func.isWrapper; first | (rw [if_pos (by decide +kernel)]; kernel_rfl) | (rw [if_neg (by decide +kernel)]; exact ⟨rfl, rfl⟩))
    (fun os started H enc _ => lifted os started H enc)

theorem card_holds : Rows.FnExactEndSessionCardSaid :=
  Claim7.holds_tied_plain_at .later [] [.data, .pinned] true (true, "7eb98f99d8c5ddf23d5cb6871be47a37fc4f8d7629f9203cedd4f0d0a626befe") false holds (fun _ h => by cases h) (by kernel_rfl) (fun _ h => by cases h) fnExactEndSession_row_tie rfl ⟨rfl, rfl⟩ (by kernel_rfl) rfl
    (fun f fn hf hfn => by
      obtain rfl : f = 3 := Option.some.inj ((show Tryd.prog.funcNamed "loop.example/g00692/laws.FnExactEndSession" = some 3 by kernel_rfl).symm.trans hf) |>.symm
      obtain rfl : fn = Tryd.f3 := (Option.some.inj (Tryd.func3.symm.trans hfn)).symm
      exact ⟨by kernel_rfl, fun j t ht => by
        rw [Tryd.params3] at ht
        have hm : t ∈ [28] := by simpa using Array.mem_of_getElem? ht
        have hall : ([28].all fun u => !Tryd.prog.wantsStandIn u) = true := by kernel_rfl
        exact (show Tryd.prog.wantsStandIn t = false by simpa using List.all_eq_true.1 hall t hm)⟩)
    (by kernel_rfl)

end Go.Proofs.YtjklhbmkajabdaaDoor
