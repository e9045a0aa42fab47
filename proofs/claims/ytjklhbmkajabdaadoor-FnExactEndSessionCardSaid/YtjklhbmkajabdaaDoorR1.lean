/- From how an argument reads to how it is said without memory. -/
import Derived.Test.YtjklhbmkajabdaaDoorF20
import Derived.WalkKit
import Derived.ProofKit
import Derived.ChangeSlices
import Derived.ChangeArms
import Derived.WideShapes
set_option linter.all false
namespace Go.VS
open Go Go.RowKit Go.ChangeShapes Go.WideShapes

theorem maxLen_eq : maxLen = 9223372036854775807 := by decide

section
variable {H : Type} {enc : TypeId × Value → H} {P : Program} {w : World} {base : Nat} {held : Bool} {R : Nat → Prop}

theorem read_int {n t : Nat} {cs : List Value} {x : DataW H × List MemPlace} (ht : P.underlying t = some (.int .i64)) (h : DataW.trod enc P w base (fun _ => true) held n t cs = some x) : ∃ z : Int, cs = [.int .i64 z] := by
  obtain ⟨z, e, _⟩ := DataW.trod_int ht h
  exact ⟨z, e⟩
theorem read_bool {n t : Nat} {cs : List Value} {x : DataW H × List MemPlace} (ht : P.underlying t = some .bool) (h : DataW.trod enc P w base (fun _ => true) held n t cs = some x) : ∃ z : Bool, cs = [.bool z] := by
  obtain ⟨z, e, _⟩ := DataW.trod_bool ht h
  exact ⟨z, e⟩
theorem read_str {n t : Nat} {cs : List Value} {x : DataW H × List MemPlace} (ht : P.underlying t = some .string) (h : DataW.trod enc P w base (fun _ => true) held n t cs = some x) : ∃ z : List UInt8, cs = [.string (bytes z)] ∧ z.length ≤ 9223372036854775807 := by
  obtain ⟨s, e, _, hs⟩ := DataW.trod_string ht h
  refine ⟨s.data.toList, ?_, ?_⟩
  · rw [e]; rfl
  · rw [maxLen_eq] at hs; exact hs

theorem read_ints {n t e : Nat} {cs : List Value} {x : DataW H × List MemPlace} (ht : P.underlying t = some (.slice e)) (he : P.underlying e = some (.int .i64)) (hc : P.cellsOf e = 1)
    (h : DataW.trod enc P w base (fun _ => true) held n t cs = some x) (hR : ∀ p ∈ x.2, R p.block) (hsp : ∀ a l c, cs = [.slice (some a) l c] → a.spot = none) :
    ∃ v xs, cs = [v] ∧ RepI w R (V.ints xs) v ∧ xs.length ≤ 9223372036854775807 := by
  rcases open_ints ht he hc h with ⟨hcs, _⟩ | ⟨a, len, cap, zs, hcs, _, hl, hm, hz, hx, hcell, _⟩
  · exact ⟨_, [], hcs, .nil _ _, by simp⟩
  · have hsp := hsp a len cap hcs
    simp only [if_true] at hz
    obtain ⟨b, off, sp⟩ := a
    have hsp : sp = none := hsp
    subst hsp
    have hlen : (zs.take len).length = len := by simp; omega
    refine ⟨_, zs.take len, hcs, ?_, by rw [maxLen_eq] at hm; omega⟩
    have hadd : ∀ i, (⟨b, off, none⟩ : Addr).add i = ⟨b, off + i, none⟩ := fun i => by
      unfold Addr.add; split <;> simp_all
    unfold V.ints
    rw [hlen]
    refine .sl len 1 _ b off cap (fun i _ => .int .i64 (zs.getD i 0)) (fun hp => ?_) hl (fun i j hi hj => ?_) (fun i j hi hj => ?_)
    · refine hR (.cell b (off + 0)) ?_
      rw [hx]
      exact List.mem_map.2 ⟨0, List.mem_range.2 (by omega), rfl⟩
    · obtain rfl : j = 0 := by omega
      have := hcell i (by omega)
      rw [hadd] at this
      exact ⟨by simpa using this, trivial⟩
    · obtain rfl : j = 0 := by omega
      rw [intsF_lt (by omega)]
      have : (zs.take len).getD i 0 = zs.getD i 0 := by simp [List.getD_eq_getElem?_getD, List.getElem?_take_of_lt hi]
      rw [this]
      exact .x _

/-- The parts of a struct, one by one. -/
theorem read_struct {n t : Nat} {fs : Array Field} {cs : List Value} {x : DataW H × List MemPlace} (ht : P.underlying t = some (.struct fs)) (h : DataW.trod enc P w base (fun _ => true) held n t cs = some x) :
    cs.length = P.cellsOf t ∧ ∃ m, ∀ (i u o : Nat), (fs[i]?).map (fun f => (f.type, f.offset)) = some (u, o) → ∃ y : DataW H × List MemPlace, DataW.trod enc P w base (fun _ => true) held m u ((cs.drop o).take (P.cellsOf u)) = some y ∧ ∀ p ∈ y.2, p ∈ x.2 := by
  obtain ⟨xs, m, _, hx, hl, hxs, hf⟩ := DataW.trod_struct ht h
  refine ⟨hl, m, fun i u o hi0 => ?_⟩
  obtain ⟨f, hi, e⟩ := Option.map_eq_some_iff.1 hi0
  obtain ⟨rfl, rfl⟩ := Prod.mk.inj e
  have h1 := hf i f hi
  have hlt : i < xs.length := by
    rw [hxs]
    exact (Array.getElem?_eq_some_iff.1 hi).1
  rw [List.getElem?_eq_getElem hlt] at h1
  refine ⟨xs[i], h1, fun p hp => ?_⟩
  rw [hx]
  exact List.mem_flatMap.2 ⟨xs[i], List.getElem_mem hlt, hp⟩

end

end Go.VS
