/- How the session reads, and the library's tables. -/
import Derived.Test.YtjklhbmkajabdaaDoorR1
import Derived.Test.YtjklhbmkajabdaaDoorRows
import Derived.Lib.LaidU8
set_option linter.all false
namespace Go.VS
open Go Go.RowKit Go.ChangeShapes Go.WideShapes

variable {H : Type} {enc : TypeId × Value → H}

theorem spot_none {P : Program} {W : World} {base t e : Nat} {cs : Array Value} {ts : List TypeId} (hok : Row.okWide P W .any base t cs) (hts : P.cellTypes P.depth t = some ts) {i : Nat} (hi : ts[i % ts.length]? = some e) {g : Nat} (he : P.underlying e = some (.slice g))
    {a : Addr} {l c : Nat} (hv : cs[i]? = some (.slice (some a) l c)) : a.spot = none := by
  obtain ⟨ts', h1, _, h3⟩ := hok
  obtain rfl := Option.some.inj (hts.symm.trans h1)
  obtain ⟨u, hu, hc⟩ := h3 i _ hv
  obtain rfl := Option.some.inj (hi.symm.trans hu)
  simp only [Cell.okWide, Cell.ok, he] at hc
  exact hc.2.2.2.1

theorem drop_take_one {cs : List Value} {k : Nat} {v : Value} (h : (cs.drop k).take 1 = [v]) : cs[k]? = some v := by
  have := congrArg (·[0]?) h
  simpa [List.getElem?_take, List.getElem?_drop] using this

theorem sub_part {cs : List Value} {o n k m : Nat} (h : k + m ≤ n) : ((((cs.drop o).take n).drop k).take m) = (cs.drop (o + k)).take m := by
  rw [List.drop_take, List.take_take, List.drop_drop]
  congr 1
  omega

theorem read_session {W : World} {R : Nat → Prop} {n base : Nat} {cs : List Value} {x : DataW H × List MemPlace} (hok : Row.okWide Proofs.Tryd.prog W .any base 28 cs.toArray)
    (h : DataW.trod enc Proofs.Tryd.prog W 0 (fun _ => true) true n 28 cs = some x) (hR : ∀ p ∈ x.2, R p.block) :
    ∃ s : Sess, RepI W R (.agg s.cells) (.agg cs.toArray) ∧ s.buf.runes.length ≤ 9223372036854775807 ∧ s.buf.longs.length ≤ 9223372036854775807 ∧ s.dec.held.length ≤ 9223372036854775807 := by
  have c28 : Proofs.Tryd.prog.cellsOf 28 = 9 := by kernel_rfl
  have c23 : Proofs.Tryd.prog.cellsOf 23 = 4 := by kernel_rfl
  have c26 : Proofs.Tryd.prog.cellsOf 26 = 4 := by kernel_rfl
  have c24 : Proofs.Tryd.prog.cellsOf 24 = 1 := by kernel_rfl
  have c3 : Proofs.Tryd.prog.cellsOf 3 = 1 := by kernel_rfl
  have c9 : Proofs.Tryd.prog.cellsOf 9 = 1 := by kernel_rfl
  have c4 : Proofs.Tryd.prog.cellsOf 4 = 1 := by kernel_rfl
  have ct : Proofs.Tryd.prog.cellTypes Proofs.Tryd.prog.depth 28 = some [3, 3, 3, 9, 3, 24, 24, 3, 4] := by kernel_rfl
  obtain ⟨hl, m, hp⟩ := read_struct Proofs.Tryd.underlying28 h
  rw [c28] at hl
  obtain ⟨y0, h0, p0⟩ := hp 0 23 0 rfl
  obtain ⟨y1, h1, p1⟩ := hp 1 26 4 rfl
  obtain ⟨y2, h2, p2⟩ := hp 2 4 8 rfl
  simp only [c23, c26, c4] at h0 h1 h2
  obtain ⟨z8, e8⟩ := read_bool Proofs.Tryd.underlying4 h2
  obtain ⟨_, m0, q0⟩ := read_struct Proofs.Tryd.underlying23 h0
  obtain ⟨_, a0, _⟩ := q0 0 3 0 rfl
  obtain ⟨_, a1, _⟩ := q0 1 3 1 rfl
  obtain ⟨_, a2, _⟩ := q0 2 3 2 rfl
  obtain ⟨_, a3, _⟩ := q0 3 9 3 rfl
  obtain ⟨_, m1, q1⟩ := read_struct Proofs.Tryd.underlying26 h1
  obtain ⟨_, b0, _⟩ := q1 0 3 0 rfl
  obtain ⟨y5, b1, u5⟩ := q1 1 24 1 rfl
  obtain ⟨y6, b2, u6⟩ := q1 2 24 2 rfl
  obtain ⟨_, b3, _⟩ := q1 3 3 3 rfl
  simp only [c3, c9, c24] at a0 a1 a2 a3 b0 b1 b2 b3
  rw [sub_part (by decide)] at a0 a1 a2 a3 b0 b1 b2 b3
  obtain ⟨z0, e0⟩ := read_int Proofs.Tryd.underlying3 a0
  obtain ⟨z1, e1⟩ := read_int Proofs.Tryd.underlying3 a1
  obtain ⟨z2, e2⟩ := read_int Proofs.Tryd.underlying3 a2
  obtain ⟨z3, e3, l3⟩ := read_str Proofs.Tryd.underlying9 a3
  obtain ⟨z4, e4⟩ := read_int Proofs.Tryd.underlying3 b0
  obtain ⟨z7, e7⟩ := read_int Proofs.Tryd.underlying3 b3
  obtain ⟨v5, z5, e5, r5, l5⟩ := read_ints (R := R) Proofs.Tryd.underlying24 Proofs.Tryd.underlying3 c3 b1 (fun p hp => hR p (p1 p (u5 p hp))) (fun a l c e => spot_none (i := 5) hok ct rfl Proofs.Tryd.underlying24 (by simpa using drop_take_one e))
  obtain ⟨v6, z6, e6, r6, l6⟩ := read_ints (R := R) Proofs.Tryd.underlying24 Proofs.Tryd.underlying3 c3 b2 (fun p hp => hR p (p1 p (u6 p hp))) (fun a l c e => spot_none (i := 6) hok ct rfl Proofs.Tryd.underlying24 (by simpa using drop_take_one e))
  have f0 := drop_take_one e0
  have f1 := drop_take_one e1
  have f2 := drop_take_one e2
  have f3 := drop_take_one e3
  have f4 := drop_take_one e4
  have f5 := drop_take_one e5
  have f6 := drop_take_one e6
  have f7 := drop_take_one e7
  have f8 := drop_take_one e8
  refine ⟨⟨⟨z0, z1, z2, z3⟩, ⟨z4, z5, z6, z7⟩, z8⟩, .agg _ _ (by simp [Sess.cells, Dec.cells, Bf.cells, hl]) (fun k c v hc hv => ?_), l5, l6, l3⟩
  match k, hc, hv with
  | 0, hc, hv => obtain rfl := Option.some.inj (f0.symm.trans hv); obtain rfl := Option.some.inj hc; exact .x _
  | 1, hc, hv => obtain rfl := Option.some.inj (f1.symm.trans hv); obtain rfl := Option.some.inj hc; exact .x _
  | 2, hc, hv => obtain rfl := Option.some.inj (f2.symm.trans hv); obtain rfl := Option.some.inj hc; exact .x _
  | 3, hc, hv => obtain rfl := Option.some.inj (f3.symm.trans hv); obtain rfl := Option.some.inj hc; exact .x _
  | 4, hc, hv => obtain rfl := Option.some.inj (f4.symm.trans hv); obtain rfl := Option.some.inj hc; exact .x _
  | 5, hc, hv => obtain rfl := Option.some.inj (f5.symm.trans hv); obtain rfl := Option.some.inj hc; exact r5
  | 6, hc, hv => obtain rfl := Option.some.inj (f6.symm.trans hv); obtain rfl := Option.some.inj hc; exact r6
  | 7, hc, hv => obtain rfl := Option.some.inj (f7.symm.trans hv); obtain rfl := Option.some.inj hc; exact .x _
  | 8, hc, hv => obtain rfl := Option.some.inj (f8.symm.trans hv); obtain rfl := Option.some.inj hc; exact .x _
  | k + 9, hc, hv => simp [Sess.cells, Dec.cells, Bf.cells] at hc

/-! The tables. -/
theorem firstB_is : ∀ j : _root_.Fin 256, Lib.firstTab[j.1]? = some (firstB j.1 : Int) := by decide +kernel
theorem accB_is : ∀ i : _root_.Fin 16, (Lib.accLo i.1 : Int) = accB (2 * i.1) ∧ (Lib.accHi i.1 : Int) = accB (2 * i.1 + 1) := by decide +kernel

theorem cell_lt {W : World} {b o : Nat} {sp : Option Nat} {v : Value} (h : W.cell? ⟨b, o, sp⟩ = some v) : b < W.heap.size := by
  unfold World.cell? at h
  split at h
  · rename_i e
    exact (Array.getElem?_eq_some_iff.1 e).1
  · cases h

theorem first_reads {P : Program} {W : World} {g t e : Nat} (hg : P.globalNamed "unicode/utf8.first" = some g) (hty : (P.globals[g]?).map (·.type) = some t) (ht : P.underlying t = some (.array 256 e)) (he : P.underlying e = some (.int .u8)) (hce : P.cellsOf e = 1) (hct : P.cellsOf t = 256)
    (h : Lib.VarReads P W "unicode/utf8.first" Pinned.utf8First) (j : Nat) (hj : j < 256) : W.cell? ⟨g, j, none⟩ = some (.int .u8 (firstB j)) := by
  obtain ⟨g', t', cs, fuel, p, hg', hty', hvar, hd⟩ := h
  obtain rfl := Option.some.inj (hg.symm.trans hg')
  obtain rfl := Option.some.inj (hty.symm.trans hty')
  rw [show Pinned.utf8First = Lib.firstData by kernel_rfl] at hd
  have hcs := Lib.cells_of_tab ht he hce hct hd
  rw [World.var?_cell hg hvar j, ← Array.getElem?_toList, hcs, List.getElem?_map, firstB_is ⟨j, hj⟩]
  rfl

theorem acc_reads {P : Program} {W : World} {g t u : Nat} {fs : Array Field} (hg : P.globalNamed "unicode/utf8.acceptRanges" = some g) (hty : (P.globals[g]?).map (·.type) = some t) (ht : P.underlying t = some (.array 16 u)) (hu : P.underlying u = some (.struct fs))
    (hf : ∀ (i : Nat) (f : Field), fs[i]? = some f → P.underlying f.type = some (.int .u8) ∧ f.offset = i ∧ P.cellsOf f.type = 1) (hs : fs.size = 2) (hcu : P.cellsOf u = 2)
    (h : Lib.VarReads P W "unicode/utf8.acceptRanges" Lib.acceptData) (j : Nat) (hj : j < 32) : W.cell? ⟨g, j, none⟩ = some (.int .u8 (accB j)) := by
  obtain ⟨g', t', cs, fuel, p, hg', hty', hvar, hd⟩ := h
  obtain rfl := Option.some.inj (hg.symm.trans hg')
  obtain rfl := Option.some.inj (hty.symm.trans hty')
  have hi : j / 2 < 16 := by omega
  obtain ⟨fuel', d, q, hdi, he⟩ := Lib.array_elem ht hd (j / 2) hi
  simp only [List.getElem?_map, List.getElem?_range hi, Option.map_some, Option.some.injEq] at hdi
  subst hdi
  rw [hcu] at he
  have hcs := Lib.ints_of_struct hu hf (by rw [hcu, hs]) he
  obtain ⟨a1, a2⟩ := accB_is ⟨j / 2, hi⟩
  rw [World.var?_cell hg hvar j, ← Array.getElem?_toList]
  rcases Nat.mod_two_eq_zero_or_one j with hm | hm
  · have e0 := congrArg (·[0]?) hcs
    simp only [List.getElem?_take, List.getElem?_drop] at e0
    have : j / 2 * 2 + 0 = j := by omega
    rw [this] at e0
    have a1 : (Lib.accLo (j / 2) : Int) = accB (2 * (j / 2)) := a1
    rw [show 2 * (j / 2) = j by omega] at a1
    simpa [a1] using e0
  · have e1 := congrArg (·[1]?) hcs
    simp only [List.getElem?_take, List.getElem?_drop] at e1
    have : j / 2 * 2 + 1 = j := by omega
    rw [this] at e1
    have a2 : (Lib.accHi (j / 2) : Int) = accB (2 * (j / 2) + 1) := a2
    rw [show 2 * (j / 2) + 1 = j by omega] at a2
    simpa [a2] using e1

/-- The table as a pointer. -/
theorem tab_imm {W : World} {R : Nat → Prop} {g n : Nat} {F : Nat → Nat} (hR : R g) (h : ∀ j, j < n → W.cell? ⟨g, j, none⟩ = some (.int .u8 (F j))) :
    RepI W R (.ip 1 n (fun _ j => .x (.int .u8 (F j))) 0 0) (.pointer (some ⟨g, 0, none⟩)) := by
  have := RepI.ip (w := W) (R := R) 1 n (fun _ j => .x (.int .u8 (F j))) 0 0 g 0 (fun _ j => .int .u8 (F j)) hR (by decide) (fun i j hi hj => by
    obtain rfl : i = 0 := by omega
    exact ⟨by simpa using h j hj, trivial⟩) (fun i j hi hj => .x _)
  simpa using this

/-- The world as the call finds it. -/
theorem sok_start {W : World} {R : Nat → Prop} (hlt : ∀ b, R b → b < W.heap.size) (h : laidMet Proofs.Tryd.prog Proofs.YtjklhbmkajabdaaDoor.Rows.fnExactEndSessionRow.laid W) :
    SOk [] [] W (fun b => R b ∨ b = 0 ∨ b = 1) := by
  have hf := first_reads (P := Proofs.Tryd.prog) (g := 0) (t := 92) (e := 5) (by kernel_rfl) (by kernel_rfl) Proofs.Tryd.underlying92 Proofs.Tryd.underlying5 (by kernel_rfl) (by kernel_rfl) (Lib.laidMet.reads h (.tail _ (.head _)))
  have ha := acc_reads (P := Proofs.Tryd.prog) (g := 1) (t := 95) (u := 94) (fs := _) (by kernel_rfl) (by kernel_rfl) Proofs.Tryd.underlying95 Proofs.Tryd.underlying94 (fun i f hi => by
      match i, hi with
      | 0, hi => simp at hi; subst hi; exact ⟨Proofs.Tryd.underlying5, rfl, by kernel_rfl⟩
      | 1, hi => simp at hi; subst hi; exact ⟨Proofs.Tryd.underlying5, rfl, by kernel_rfl⟩
      | i + 2, hi => simp at hi) rfl (by kernel_rfl) (Lib.laidMet.reads h (.head _))
  refine ⟨rfl, fun b hb => ?_, fun n c hn => ?_, fun i k m hk => by simp at hk, fun i k hk => by simp at hk, fun i j k k' m m' _ hk => by simp at hk⟩
  · rcases hb with hb | rfl | rfl
    · exact hlt b hb
    · exact cell_lt (hf 0 (by decide))
    · exact cell_lt (ha 0 (by decide))
  · simp only [globs, glk] at hn
    split at hn
    · rename_i e; subst e
      obtain rfl := Option.some.inj hn
      exact tab_imm (.inr (.inl rfl)) hf
    · split at hn
      · rename_i e; subst e
        obtain rfl := Option.some.inj hn
        exact tab_imm (.inr (.inr rfl)) ha
      · cases hn

end Go.VS
