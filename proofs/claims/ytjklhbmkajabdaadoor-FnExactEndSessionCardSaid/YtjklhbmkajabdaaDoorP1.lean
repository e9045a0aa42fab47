/- Plain facts on UTF-8: what a text of up to four bytes begins with. -/
import Derived.Test.YtjklhbmkajabdaaDoorVs0
set_option linter.all false
namespace Go.VS

def by8 (s : List UInt8) (i : Nat) : Int := ((s.getD i 0).toNat : Int)
theorem by8_bd (s : List UInt8) (i : Nat) : 0 ≤ by8 s i ∧ by8 s i ≤ 255 := by
  unfold by8
  have := (s.getD i 0).toNat_lt
  omega
theorem by8_eq (s : List UInt8) (i : Nat) : ((s.getD i 0).toNat : Int) = by8 s i := rfl

/-- Within bounds. -/
def inR (n lo hi : Int) : Bool := decide (lo ≤ n) && decide (n ≤ hi)
def goodRune (r : Int) : Bool := inR r 0 1114111 && !inR r 55296 57343

/-- How many bytes a first byte tells of. -/
def long1 (b : Int) : Int := if b < 128 then 1 else if b < 192 then 0 else if b < 224 then 2 else if b < 240 then 3 else if b < 248 then 4 else 0

def u8 (n : Int) : UInt8 := UInt8.ofNat n.toNat

theorem by8_u8 {n : Int} (h : 0 ≤ n ∧ n ≤ 255) : ((u8 n).toNat : Int) = n := by
  unfold u8
  rw [UInt8.toNat_ofNat_of_lt' (by show n.toNat < 2 ^ 8; omega)]
  omega

/-- The bytes of a rune. -/
def utf8 (r : Int) : List UInt8 :=
  if r < 128 then [u8 r] else if r < 2048 then [u8 (192 + r / 64), u8 (128 + r % 64)]
  else if r < 65536 then [u8 (224 + r / 4096), u8 (128 + r / 64 % 64), u8 (128 + r % 64)]
  else [u8 (240 + r / 262144), u8 (128 + r / 4096 % 64), u8 (128 + r / 64 % 64), u8 (128 + r % 64)]

/-- The bits of the rune from a place on, by its first byte. -/
def bits1 (s : List UInt8) (i : Nat) (l : Int) : Int := if l > 1 then by8 s i % 2 ^ (7 - l).toNat else by8 s i
def bitsN (s : List UInt8) (i : Nat) (l : Int) : Nat → Int
  | 0 => bits1 s i l
  | k + 1 => bitsN s i l k * 64 + by8 s (i + (k + 1)) % 64

/-- The rune at a place and how many bytes it has. -/
def at1 (s : List UInt8) (i : Nat) : Int × Int :=
  let l := long1 (by8 s i)
  if l = 0 ∨ s.length < i + l then (65533, 1)
  else let r := bitsN s i l (l.toNat - 1)
    if goodRune r = true ∧ utf8 r = (s.take (i + l.toNat)).drop i then (r, l) else (65533, 1)

/-- Begun, and not ended. -/
def begun (s : List UInt8) : Bool :=
  decide (0 < s.length ∧ s.length ≤ 3 ∧ s.length < long1 (by8 s 0)) && (List.range 64).any fun b => decide ((at1 (s ++ List.replicate ((long1 (by8 s 0)).toNat - s.length) (u8 (128 + b))) 0).2 > 1)

/-- Go's own: the text at the front is whole, or no begun one. -/
def fullRune (s : List UInt8) : Bool :=
  if s.length = 0 then false
  else let x := firstB (by8 s 0).toNat
    if (x % 8 : Nat) ≤ s.length then true
    else let lo := accB (2 * (x / 16)); let hi := accB (2 * (x / 16) + 1)
      if s.length > 1 ∧ (by8 s 1 < lo ∨ hi < by8 s 1) then true
      else if s.length > 2 ∧ (by8 s 2 < 128 ∨ 191 < by8 s 2) then true else false

theorem at1_two (a b : UInt8) (h : 192 ≤ (a.toNat : Int) ∧ (a.toNat : Int) < 224) : ((at1 [a, b] 0).2 > 1) ↔ (194 ≤ a.toNat ∧ 128 ≤ b.toNat ∧ b.toNat < 192) := by
  have hb := b.toNat_lt
  have e0 : by8 [a, b] 0 = a.toNat := rfl
  have e1 : by8 [a, b] 1 = b.toNat := rfl
  have hl : long1 (a.toNat : Int) = 2 := by unfold long1; split <;> (try split) <;> (try split) <;> (try split) <;> omega
  unfold at1
  simp only [e0, hl]
  rw [if_neg (by simp)]
  have hbits : bitsN [a, b] 0 2 (Int.toNat 2 - 1) = (a.toNat : Int) % 32 * 64 + (b.toNat : Int) % 64 := by
    show bitsN [a, b] 0 2 1 = _
    simp only [bitsN, bits1, e0, Nat.zero_add, e1]
    rfl
  rw [hbits]
  have htd : List.drop 0 (List.take (0 + Int.toNat 2) [a, b]) = [a, b] := rfl
  rw [htd]
  generalize hr : (a.toNat : Int) % 32 * 64 + (b.toNat : Int) % 64 = r
  have hr2 : 0 ≤ r ∧ r < 2048 := by omega
  by_cases h1 : r < 128
  · rw [if_neg (by unfold utf8; rw [if_pos h1]; simp)]
    simp; omega
  · have hg : goodRune r = true := by simp [goodRune, inR]; omega
    have hu : utf8 r = [u8 (192 + r / 64), u8 (128 + r % 64)] := by unfold utf8; rw [if_neg h1, if_pos hr2.2]
    rw [hu]
    by_cases h2 : 128 ≤ b.toNat ∧ b.toNat < 192
    · have : [u8 (192 + r / 64), u8 (128 + r % 64)] = [a, b] := by
        have ea : u8 (192 + r / 64) = a := by
          apply UInt8.toNat_inj.1
          have := by8_u8 (n := 192 + r / 64) (by omega)
          omega
        have eb : u8 (128 + r % 64) = b := by
          apply UInt8.toNat_inj.1
          have := by8_u8 (n := 128 + r % 64) (by omega)
          omega
        rw [ea, eb]
      rw [if_pos ⟨hg, this⟩]
      simp; omega
    · rw [if_neg]
      · simp; omega
      · rintro ⟨_, e⟩
        simp only [List.cons.injEq, and_true] at e
        have := by8_u8 (n := 128 + r % 64) (by omega)
        rw [e.2] at this
        omega

theorem at1_three (a b c : UInt8) (h : 224 ≤ (a.toNat : Int) ∧ (a.toNat : Int) < 240) : ((at1 [a, b, c] 0).2 > 1) ↔ (128 ≤ c.toNat ∧ c.toNat < 192 ∧ 128 ≤ b.toNat ∧ b.toNat < 192 ∧ (a.toNat = 224 → 160 ≤ b.toNat) ∧ (a.toNat = 237 → b.toNat < 160)) := by
  have hb := b.toNat_lt
  have hc := c.toNat_lt
  have e0 : by8 [a, b, c] 0 = a.toNat := rfl
  have e1 : by8 [a, b, c] 1 = b.toNat := rfl
  have e2 : by8 [a, b, c] 2 = c.toNat := rfl
  have hl : long1 (a.toNat : Int) = 3 := by unfold long1; split <;> (try split) <;> (try split) <;> (try split) <;> omega
  unfold at1
  simp only [e0, hl]
  rw [if_neg (by simp)]
  have hbits : bitsN [a, b, c] 0 3 (Int.toNat 3 - 1) = ((a.toNat : Int) % 16 * 64 + (b.toNat : Int) % 64) * 64 + (c.toNat : Int) % 64 := by
    show bitsN [a, b, c] 0 3 2 = _
    simp only [bitsN, bits1, e0, Nat.zero_add, e1, e2]
    rfl
  rw [hbits]
  have htd : List.drop 0 (List.take (0 + Int.toNat 3) [a, b, c]) = [a, b, c] := rfl
  rw [htd]
  generalize hr : ((a.toNat : Int) % 16 * 64 + (b.toNat : Int) % 64) * 64 + (c.toNat : Int) % 64 = r
  have hr2 : 0 ≤ r ∧ r < 65536 := by omega
  by_cases h1 : r < 2048
  · rw [if_neg (by unfold utf8; split <;> simp [h1])]
    simp; omega
  · have hu : utf8 r = [u8 (224 + r / 4096), u8 (128 + r / 64 % 64), u8 (128 + r % 64)] := by
      unfold utf8; rw [if_neg (by omega), if_neg h1, if_pos hr2.2]
    rw [hu]
    by_cases h2 : 128 ≤ b.toNat ∧ b.toNat < 192 ∧ 128 ≤ c.toNat ∧ c.toNat < 192
    · have : [u8 (224 + r / 4096), u8 (128 + r / 64 % 64), u8 (128 + r % 64)] = [a, b, c] := by
        have ea : u8 (224 + r / 4096) = a := by
          apply UInt8.toNat_inj.1
          have := by8_u8 (n := 224 + r / 4096) (by omega)
          omega
        have eb : u8 (128 + r / 64 % 64) = b := by
          apply UInt8.toNat_inj.1
          have := by8_u8 (n := 128 + r / 64 % 64) (by omega)
          omega
        have ec : u8 (128 + r % 64) = c := by
          apply UInt8.toNat_inj.1
          have := by8_u8 (n := 128 + r % 64) (by omega)
          omega
        rw [ea, eb, ec]
      by_cases hg : goodRune r = true
      · rw [if_pos ⟨hg, this⟩]
        simp [goodRune, inR] at hg
        simp; omega
      · rw [if_neg (fun h => hg h.1)]
        simp [goodRune, inR] at hg
        simp; omega
    · rw [if_neg]
      · simp; omega
      · rintro ⟨_, e⟩
        simp only [List.cons.injEq, and_true] at e
        have h3 := by8_u8 (n := 128 + r % 64) (by omega)
        have h4 := by8_u8 (n := 128 + r / 64 % 64) (by omega)
        rw [e.2.2] at h3
        rw [e.2.1] at h4
        omega

theorem at1_four (a b c d : UInt8) (h : 240 ≤ (a.toNat : Int) ∧ (a.toNat : Int) < 248) : ((at1 [a, b, c, d] 0).2 > 1) ↔ (a.toNat ≤ 244 ∧ 128 ≤ d.toNat ∧ d.toNat < 192 ∧ 128 ≤ c.toNat ∧ c.toNat < 192 ∧ 128 ≤ b.toNat ∧ b.toNat < 192 ∧ (a.toNat = 240 → 144 ≤ b.toNat) ∧ (a.toNat = 244 → b.toNat < 144)) := by
  have hb := b.toNat_lt
  have hc := c.toNat_lt
  have hd := d.toNat_lt
  have e0 : by8 [a, b, c, d] 0 = a.toNat := rfl
  have e1 : by8 [a, b, c, d] 1 = b.toNat := rfl
  have e2 : by8 [a, b, c, d] 2 = c.toNat := rfl
  have e3 : by8 [a, b, c, d] 3 = d.toNat := rfl
  have hl : long1 (a.toNat : Int) = 4 := by unfold long1; split <;> (try split) <;> (try split) <;> (try split) <;> (try split) <;> omega
  unfold at1
  simp only [e0, hl]
  rw [if_neg (by simp)]
  have hbits : bitsN [a, b, c, d] 0 4 (Int.toNat 4 - 1) = (((a.toNat : Int) % 8 * 64 + (b.toNat : Int) % 64) * 64 + (c.toNat : Int) % 64) * 64 + (d.toNat : Int) % 64 := by
    show bitsN [a, b, c, d] 0 4 3 = _
    simp only [bitsN, bits1, e0, Nat.zero_add, e1, e2, e3]
    rfl
  rw [hbits]
  have htd : List.drop 0 (List.take (0 + Int.toNat 4) [a, b, c, d]) = [a, b, c, d] := rfl
  rw [htd]
  generalize hr : (((a.toNat : Int) % 8 * 64 + (b.toNat : Int) % 64) * 64 + (c.toNat : Int) % 64) * 64 + (d.toNat : Int) % 64 = r
  have hr2 : 0 ≤ r ∧ r < 2097152 := by omega
  by_cases h1 : r < 65536
  · rw [if_neg (by unfold utf8; split <;> (try split) <;> simp [h1])]
    simp; omega
  · have hu : utf8 r = [u8 (240 + r / 262144), u8 (128 + r / 4096 % 64), u8 (128 + r / 64 % 64), u8 (128 + r % 64)] := by
      unfold utf8; rw [if_neg (by omega), if_neg (by omega), if_neg h1]
    rw [hu]
    by_cases h2 : 128 ≤ b.toNat ∧ b.toNat < 192 ∧ 128 ≤ c.toNat ∧ c.toNat < 192 ∧ 128 ≤ d.toNat ∧ d.toNat < 192
    · have : [u8 (240 + r / 262144), u8 (128 + r / 4096 % 64), u8 (128 + r / 64 % 64), u8 (128 + r % 64)] = [a, b, c, d] := by
        have ea : u8 (240 + r / 262144) = a := by
          apply UInt8.toNat_inj.1
          have := by8_u8 (n := 240 + r / 262144) (by omega)
          omega
        have eb : u8 (128 + r / 4096 % 64) = b := by
          apply UInt8.toNat_inj.1
          have := by8_u8 (n := 128 + r / 4096 % 64) (by omega)
          omega
        have ec : u8 (128 + r / 64 % 64) = c := by
          apply UInt8.toNat_inj.1
          have := by8_u8 (n := 128 + r / 64 % 64) (by omega)
          omega
        have ed : u8 (128 + r % 64) = d := by
          apply UInt8.toNat_inj.1
          have := by8_u8 (n := 128 + r % 64) (by omega)
          omega
        rw [ea, eb, ec, ed]
      by_cases hg : goodRune r = true
      · rw [if_pos ⟨hg, this⟩]
        simp [goodRune, inR] at hg
        simp; omega
      · rw [if_neg (fun h => hg h.1)]
        simp [goodRune, inR] at hg
        simp; omega
    · rw [if_neg]
      · simp; omega
      · rintro ⟨_, e⟩
        simp only [List.cons.injEq, and_true] at e
        have h3 := by8_u8 (n := 128 + r % 64) (by omega)
        have h4 := by8_u8 (n := 128 + r / 64 % 64) (by omega)
        have h5 := by8_u8 (n := 128 + r / 4096 % 64) (by omega)
        rw [e.2.2.2] at h3
        rw [e.2.2.1] at h4
        rw [e.2.1] at h5
        omega

theorem begun_iff (s : List UInt8) : begun s = true ↔ (0 < s.length ∧ s.length ≤ 3 ∧ (s.length : Int) < long1 (by8 s 0)) ∧ ∃ b : Nat, b < 64 ∧ (at1 (s ++ List.replicate ((long1 (by8 s 0)).toNat - s.length) (u8 (128 + b))) 0).2 > 1 := by
  unfold begun
  simp only [Bool.and_eq_true, decide_eq_true_eq, List.any_eq_true, List.mem_range]

theorem u8_nat (b : Nat) (h : b < 64) : (u8 (128 + (b : Int))).toNat = 128 + b := by
  have := by8_u8 (n := 128 + (b : Int)) (by omega)
  omega

theorem long1_cases (A : Int) (h : 0 ≤ A ∧ A ≤ 255) : (A < 128 ∧ long1 A = 1) ∨ (128 ≤ A ∧ A < 192 ∧ long1 A = 0) ∨ (192 ≤ A ∧ A < 224 ∧ long1 A = 2) ∨ (224 ≤ A ∧ A < 240 ∧ long1 A = 3) ∨ (240 ≤ A ∧ A < 248 ∧ long1 A = 4) ∨ (248 ≤ A ∧ long1 A = 0) := by
  unfold long1
  split
  · omega
  · split
    · omega
    · split
      · omega
      · split
        · omega
        · split <;> omega

theorem firstB_cases (A : Nat) (h : A ≤ 255) : (A < 128 ∧ firstB A = 240) ∨ (128 ≤ A ∧ A < 194 ∧ firstB A = 241) ∨ (194 ≤ A ∧ A < 224 ∧ firstB A = 2) ∨ (A = 224 ∧ firstB A = 19) ∨ (A = 237 ∧ firstB A = 35) ∨ (225 ≤ A ∧ A < 240 ∧ A ≠ 237 ∧ firstB A = 3) ∨ (A = 240 ∧ firstB A = 52) ∨ (241 ≤ A ∧ A < 244 ∧ firstB A = 4) ∨ (A = 244 ∧ firstB A = 68) ∨ (245 ≤ A ∧ firstB A = 241) := by
  unfold firstB
  repeat' split
  all_goals omega

theorem fullRune_one (a : UInt8) : fullRune [a] = true ↔ (a.toNat < 194 ∨ 244 < a.toNat) := by
  have ha := a.toNat_lt
  have e0 : (by8 [a] 0).toNat = a.toNat := rfl
  unfold fullRune
  simp only [e0, List.length_singleton]
  rcases firstB_cases a.toNat (by omega) with h | h | h | h | h | h | h | h | h | h
  all_goals
    obtain ⟨h1, h⟩ := h
    (try obtain ⟨h2, h⟩ := h)
    (try obtain ⟨h3, h⟩ := h)
    rw [h]
    simp
    try omega

theorem fullRune_two (a b : UInt8) : fullRune [a, b] = true ↔ (a.toNat < 224 ∨ 244 < a.toNat ∨ b.toNat < 128 ∨ 192 ≤ b.toNat ∨ (a.toNat = 224 ∧ b.toNat < 160) ∨ (a.toNat = 237 ∧ 160 ≤ b.toNat) ∨ (a.toNat = 240 ∧ b.toNat < 144) ∨ (a.toNat = 244 ∧ 144 ≤ b.toNat)) := by
  have ha := a.toNat_lt
  have hb := b.toNat_lt
  have e0 : (by8 [a, b] 0).toNat = a.toNat := rfl
  have e1 : by8 [a, b] 1 = b.toNat := rfl
  unfold fullRune
  simp only [e0, e1, List.length_cons, List.length_nil]
  rcases firstB_cases a.toNat (by omega) with h | h | h | h | h | h | h | h | h | h
  all_goals
    obtain ⟨h1, h⟩ := h
    (try obtain ⟨h2, h⟩ := h)
    (try obtain ⟨h3, h⟩ := h)
    rw [h]
    simp [accB]
    try omega

theorem fullRune_three (a b c : UInt8) : fullRune [a, b, c] = true ↔ (a.toNat < 240 ∨ 244 < a.toNat ∨ b.toNat < 128 ∨ 192 ≤ b.toNat ∨ (a.toNat = 240 ∧ b.toNat < 144) ∨ (a.toNat = 244 ∧ 144 ≤ b.toNat) ∨ c.toNat < 128 ∨ 192 ≤ c.toNat) := by
  have ha := a.toNat_lt
  have hb := b.toNat_lt
  have hc := c.toNat_lt
  have e0 : (by8 [a, b, c] 0).toNat = a.toNat := rfl
  have e1 : by8 [a, b, c] 1 = b.toNat := rfl
  have e2 : by8 [a, b, c] 2 = c.toNat := rfl
  unfold fullRune
  simp only [e0, e1, e2, List.length_cons, List.length_nil]
  rcases firstB_cases a.toNat (by omega) with h | h | h | h | h | h | h | h | h | h
  all_goals
    obtain ⟨h1, h⟩ := h
    (try obtain ⟨h2, h⟩ := h)
    (try obtain ⟨h3, h⟩ := h)
    rw [h]
    simp [accB]
    try omega

theorem fullRune_four {s : List UInt8} (h : 4 ≤ s.length) : fullRune s = true := by
  unfold fullRune
  rw [if_neg (by omega)]
  have hb := by8_bd s 0
  have : firstB (by8 s 0).toNat % 8 ≤ s.length := by
    rcases firstB_cases (by8 s 0).toNat (by omega) with h | h | h | h | h | h | h | h | h | h
    all_goals omega
  simp only [this, if_true]

theorem begun_eq {s : List UInt8} (hs : s ≠ []) : begun s = !fullRune s := by
  suffices begun s = true ↔ ¬ fullRune s = true by
    cases h1 : begun s <;> cases h2 : fullRune s <;> simp_all
  rw [begun_iff]
  match s, hs with
  | [a], _ =>
    have ha := a.toNat_lt
    rw [fullRune_one]
    have e0 : by8 [a] 0 = a.toNat := rfl
    rw [e0]
    rcases long1_cases a.toNat (by omega) with ⟨h, hl⟩ | ⟨h, h', hl⟩ | ⟨h, h', hl⟩ | ⟨h, h', hl⟩ | ⟨h, h', hl⟩ | ⟨h, hl⟩
    all_goals rw [hl]
    · simp; omega
    · simp; omega
    · have key : ∀ b : Nat, b < 64 → ((at1 ([a] ++ List.replicate (Int.toNat 2 - [a].length) (u8 (128 + b))) 0).2 > 1 ↔ 194 ≤ a.toNat) := fun b hb => by
        have := at1_two a (u8 (128 + b)) ⟨h, h'⟩
        rw [u8_nat b hb] at this
        refine Iff.trans this ?_
        omega
      constructor
      · rintro ⟨_, b, hb, h2⟩; have := (key b hb).1 h2; omega
      · intro hn; exact ⟨by simp, 0, by omega, (key 0 (by omega)).2 (by omega)⟩
    · have key : ∀ b : Nat, b < 64 → ((at1 ([a] ++ List.replicate (Int.toNat 3 - [a].length) (u8 (128 + b))) 0).2 > 1 ↔ ((a.toNat = 224 → 160 ≤ 128 + b) ∧ (a.toNat = 237 → 128 + b < 160))) := fun b hb => by
        have := at1_three a (u8 (128 + b)) (u8 (128 + b)) ⟨h, h'⟩
        rw [u8_nat b hb] at this
        refine Iff.trans this ?_
        omega
      constructor
      · intro _; omega
      · intro hn
        refine ⟨by simp, ?_⟩
        by_cases h2 : a.toNat = 224
        · exact ⟨32, by omega, (key 32 (by omega)).2 (by omega)⟩
        · exact ⟨0, by omega, (key 0 (by omega)).2 (by omega)⟩
    · have key : ∀ b : Nat, b < 64 → ((at1 ([a] ++ List.replicate (Int.toNat 4 - [a].length) (u8 (128 + b))) 0).2 > 1 ↔ (a.toNat ≤ 244 ∧ (a.toNat = 240 → 144 ≤ 128 + b) ∧ (a.toNat = 244 → 128 + b < 144))) := fun b hb => by
        have := at1_four a (u8 (128 + b)) (u8 (128 + b)) (u8 (128 + b)) ⟨h, h'⟩
        rw [u8_nat b hb] at this
        refine Iff.trans this ?_
        omega
      constructor
      · rintro ⟨_, b, hb, h2⟩; have := (key b hb).1 h2; omega
      · intro hn
        refine ⟨by simp, ?_⟩
        by_cases h2 : a.toNat = 240
        · exact ⟨16, by omega, (key 16 (by omega)).2 (by omega)⟩
        · exact ⟨0, by omega, (key 0 (by omega)).2 (by omega)⟩
    · simp; omega
  | [a, b], _ =>
    have ha := a.toNat_lt
    have hb0 := b.toNat_lt
    rw [fullRune_two]
    have e0 : by8 [a, b] 0 = a.toNat := rfl
    rw [e0]
    rcases long1_cases a.toNat (by omega) with ⟨h, hl⟩ | ⟨h, h', hl⟩ | ⟨h, h', hl⟩ | ⟨h, h', hl⟩ | ⟨h, h', hl⟩ | ⟨h, hl⟩
    all_goals rw [hl]
    · simp; omega
    · simp; omega
    · simp; omega
    · have key : ∀ c : Nat, c < 64 → ((at1 ([a, b] ++ List.replicate (Int.toNat 3 - [a, b].length) (u8 (128 + c))) 0).2 > 1 ↔ (128 ≤ b.toNat ∧ b.toNat < 192 ∧ (a.toNat = 224 → 160 ≤ b.toNat) ∧ (a.toNat = 237 → b.toNat < 160))) := fun c hc => by
        have := at1_three a b (u8 (128 + c)) ⟨h, h'⟩
        rw [u8_nat c hc] at this
        refine Iff.trans this ?_
        omega
      constructor
      · rintro ⟨_, c, hc, h2⟩; have := (key c hc).1 h2; omega
      · intro hn; exact ⟨by simp, 0, by omega, (key 0 (by omega)).2 (by omega)⟩
    · have key : ∀ c : Nat, c < 64 → ((at1 ([a, b] ++ List.replicate (Int.toNat 4 - [a, b].length) (u8 (128 + c))) 0).2 > 1 ↔ (a.toNat ≤ 244 ∧ 128 ≤ b.toNat ∧ b.toNat < 192 ∧ (a.toNat = 240 → 144 ≤ b.toNat) ∧ (a.toNat = 244 → b.toNat < 144))) := fun c hc => by
        have := at1_four a b (u8 (128 + c)) (u8 (128 + c)) ⟨h, h'⟩
        rw [u8_nat c hc] at this
        refine Iff.trans this ?_
        omega
      constructor
      · rintro ⟨_, c, hc, h2⟩; have := (key c hc).1 h2; omega
      · intro hn; exact ⟨by simp, 0, by omega, (key 0 (by omega)).2 (by omega)⟩
    · simp; omega
  | [a, b, c], _ =>
    have ha := a.toNat_lt
    have hb0 := b.toNat_lt
    have hc0 := c.toNat_lt
    rw [fullRune_three]
    have e0 : by8 [a, b, c] 0 = a.toNat := rfl
    rw [e0]
    rcases long1_cases a.toNat (by omega) with ⟨h, hl⟩ | ⟨h, h', hl⟩ | ⟨h, h', hl⟩ | ⟨h, h', hl⟩ | ⟨h, h', hl⟩ | ⟨h, hl⟩
    all_goals rw [hl]
    · simp; omega
    · simp; omega
    · simp; omega
    · simp; omega
    · have key : ∀ d : Nat, d < 64 → ((at1 ([a, b, c] ++ List.replicate (Int.toNat 4 - [a, b, c].length) (u8 (128 + d))) 0).2 > 1 ↔ (a.toNat ≤ 244 ∧ 128 ≤ c.toNat ∧ c.toNat < 192 ∧ 128 ≤ b.toNat ∧ b.toNat < 192 ∧ (a.toNat = 240 → 144 ≤ b.toNat) ∧ (a.toNat = 244 → b.toNat < 144))) := fun d hd => by
        have := at1_four a b c (u8 (128 + d)) ⟨h, h'⟩
        rw [u8_nat d hd] at this
        refine Iff.trans this ?_
        omega
      constructor
      · rintro ⟨_, d, hd, h2⟩; have := (key d hd).1 h2; omega
      · intro hn; exact ⟨by simp, 0, by omega, (key 0 (by omega)).2 (by omega)⟩
    · simp; omega
  | a :: b :: c :: d :: r, _ =>
    rw [fullRune_four (by simp)]
    simp

end Go.VS
