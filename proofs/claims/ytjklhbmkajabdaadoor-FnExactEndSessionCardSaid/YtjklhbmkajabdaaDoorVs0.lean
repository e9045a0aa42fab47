/- Values without memory; what the program's package-level variables hold that are never written. -/
import Derived.WalkKit
import Derived.KernelRfl
set_option linter.all false
namespace Go.VS
open Go Go.RowKit

/-- What a slot holds, said without memory: 'sl' an immutable slice by its elements' cells, 'ip' a pointer into one, 'ref' and 'ptr' a slice and a pointer into a block of the call's own (by number and version). -/
inductive V where
  | x (v : Value)
  | sl (n sz : Nat) (f : Nat → Nat → V)
  | ip (n sz : Nat) (f : Nat → Nat → V) (i j : Nat)
  | ref (id ver off n : Nat)
  | ptr (id ver off : Nat)
  | agg (cs : List V)
  | tup (vs : List V)
  | fn (g : Fn) (cs : List V)
  | bad
deriving Inhabited

/-- A slice's cells, none beyond its bounds. -/
def cut (n sz : Nat) (f : Nat → Nat → V) : Nat → Nat → V := fun i j => if i < n ∧ j < sz then f i j else .bad

/-- Go's table of a text's first bytes, and its ranges. -/
def firstB (b : Nat) : Nat := if b < 128 then 240 else if b < 194 then 241 else if b < 224 then 2 else if b = 224 then 19 else if b = 237 then 35 else if b < 240 then 3 else if b = 240 then 52 else if b < 244 then 4 else if b = 244 then 68 else 241
def accB (j : Nat) : Nat := if j = 0 then 128 else if j = 1 then 191 else if j = 2 then 160 else if j = 3 then 191 else if j = 4 then 128 else if j = 5 then 159 else if j = 6 then 144 else if j = 7 then 191 else if j = 8 then 128 else if j = 9 then 143 else 0
def firstV : V := .ip 1 256 (fun _ j => .x (.int .u8 (firstB j))) 0 0
def accV : V := .ip 1 32 (fun _ j => .x (.int .u8 (accB j))) 0 0

/-- The package-level variables that are read, as pointers. -/
def globs : List (Nat × V) := [(0, firstV), (1, accV)]

def glk : List (Nat × V) → Nat → Option V
  | [], _ => none
  | (i, v) :: r, k => if i = k then some v else glk r k

end Go.VS
