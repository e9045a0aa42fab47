/- The code of a function in short, and what its operations ask and give, said without memory. -/
import Derived.Test.YtjklhbmkajabdaaDoorVs1b
set_option linter.all false
namespace Go.VS
open Go Go.RowKit

/-- Operands, operations, code: the model's, without places in the text and without edges. -/
inductive A where
  | t (n : Nat)
  | k (v : Value)
  | g (n : Nat)
  | f (n : Nat)
deriving Inhabited

inductive O where
  | mv (x : A)
  | pk (c a b : A)
  | al (t : Nat)
  | bx (t : Nat) (x : A)
  | bd (t : Nat) (ps : List (Nat × A))
  | bs (t n : Nat) (ps : List (Nat × A))
  | bz (t n : Nat) (ps : List (Nat × A))
  | ld (t : Nat) (x : A)
  | st (t : Nat) (a v : A)
  | nc (x : A)
  | bi (op : BinOp) (t : Nat) (x y : A)
  | un (op : UnOp) (x : A)
  | cv (s d : Nat) (x : A)
  | mf (g : Fn) (cs : List A)
  | ms (t : Nat) (l c : A)
  | sl (t : Nat) (x : A) (lo hi : Option A)
  | fa (t : Nat) (x : A) (k : Nat)
  | fl (t : Nat) (x : A) (k : Nat)
  | ia (t : Nat) (x i : A)
  | ix (t : Nat) (x i : A)
  | ex (x : A) (k : Nat)
  | ca (f : Nat) (as : List A)
  | cd (x : A) (as : List A)
  | bu (b : Builtin) (ts : List Nat) (as : List A)
  | ot
deriving Inhabited

structure CO where
  d : Option Nat
  o : O
  g : Option (Nat × Bool)
deriving Inhabited

def A.of : Operand → A
  | .tmp n => .t n
  | .const v => .k v
  | .global n => .g n
  | .func n => .f n

def O.of : Op → O
  | .move x | .assign x => .mv (.of x)
  | .pick c a b => .pk (.of c) (.of a) (.of b)
  | .alloc t => .al t
  | .box t x => .bx t (.of x)
  | .build t ps => .bd t (ps.toList.map fun p => (p.1, .of p.2))
  | .buildSlice t n ps => .bs t n (ps.toList.map fun p => (p.1, .of p.2))
  | .load t x => .ld t (.of x)
  | .store t a v => .st t (.of a) (.of v)
  | .nilCheck x => .nc (.of x)
  | .binOp op t x y _ => .bi op t (.of x) (.of y)
  | .unOp op _ x => .un op (.of x)
  | .convert s d x => .cv s d (.of x)
  | .makeFunc g first cs => if first.isEmpty then .mf g (cs.toList.map .of) else .ot
  | .makeSlice t l c => .ms t (.of l) (.of c)
  | .slice t x lo hi none => .sl t (.of x) (lo.map .of) (hi.map .of)
  | .fieldAddr t x k => .fa t (.of x) k
  | .field t x k => .fl t (.of x) k
  | .indexAddr t x i => .ia t (.of x) (.of i)
  | .index t x i => .ix t (.of x) (.of i)
  | .extract x k => .ex (.of x) k
  | .call { callee := .value (.func f), args, .. } => .ca f (args.toList.map .of)
  | .call { callee := .value x, args, .. } => .cd (.of x) (args.toList.map .of)
  | .call { callee := .builtin b, args, argTypes } => .bu b argTypes.toList (args.toList.map .of)
  | _ => .ot

/-- Slots. -/
abbrev Env := List (Nat × V)

/-- An operation that is passed over leaves this. -/
def V.un : V := .x undef

def lk : Env → Nat → V
  | [], _ => .bad
  | (i, v) :: r, k => if i = k then v else lk r k

def cvv : Value → V
  | .agg cs => .agg (cs.toList.map .x)
  | v => .x v

def ev (ρ : Env) : A → V
  | .t n => lk ρ n
  | .k v => cvv v
  | .g n => (glk globs n).getD (.x (.pointer (some ⟨n, 0, none⟩)))
  | .f n => .fn (.func n) []

def evs (ρ : Env) : List A → List V
  | [] => []
  | a :: r => ev ρ a :: evs ρ r

def evps (ρ : Env) : List (Nat × A) → List (Nat × V)
  | [] => []
  | (i, a) :: r => (i, ev ρ a) :: evps ρ r

/-- Of a type: cells, bytes, whether it is a struct or an array, its zero value's cells. -/
def inf (P : Program) (t : Nat) : Option (Nat × Nat × Bool × List Value) :=
  match P.info? t, P.underlying t with
  | some i, some d => match i.zero with
    | some z => some (i.size, i.bytes, (match d with | .struct _ => true | .array .. => true | _ => false), z.cells.toList)
    | none => none
  | _, _ => none

def el (P : Program) (t : Nat) : Option Nat := match P.underlying t with | some (.slice e) => some e | _ => none

def arr (P : Program) (t : Nat) : Option (Nat × Nat) := match P.underlying t with | some (.array n e) => some (n, e) | _ => none

def fo (P : Program) (t k : Nat) : Option (Nat × Nat) := match P.underlying t with | some (.struct fs) => (fs[k]?).map fun f => (f.offset, f.type) | _ => none

/-- Of a struct: where its fields lie and how many cells they have. -/
def flds (P : Program) (t : Nat) : Option (List (Nat × Nat)) :=
  match P.underlying t with
  | some (.struct fs) => fs.toList.mapM fun f => (inf P f.type).map fun q => (f.offset, q.1)
  | _ => none

def intT (P : Program) (t : Nat) : Option IntKind := match P.underlying t with | some (.int k) => some k | _ => none

def one1 : V → Bool
  | .x v => match v with | .agg _ => false | .tuple _ => false | _ => true
  | .sl .. => true
  | .ip .. => true
  | .ref .. => true
  | .ptr .. => true
  | .fn .. => true
  | _ => false

def ones : List V → Bool
  | [] => true
  | c :: r => one1 c && ones r

/-- Cells written from a place on. -/
def wr : List V → Nat → List V → List V
  | l, _, [] => l
  | l, o, c :: r => wr (l.set o c) (o + 1) r

/-- n cells of an element from one on. -/
def rng (f : Nat → V) (j : Nat) : Nat → List V
  | 0 => []
  | n + 1 => f j :: rng f (j + 1) n

def sel (t : Bool) (x y : V) : V :=
  match x, y with
  | .x (.bool u), .x (.bool v) => .x (.bool (bif t then u else v))
  | x, y => bif t then x else y

/-- The parts of a literal laid over its zero cells. -/
def fillV (pl : Nat → Option (Nat × Nat)) : List V → List (Nat × V) → Option (List V)
  | cs, [] => some cs
  | cs, (i, v) :: r => match pl i with
    | none => none
    | some (o, s) => if v.cells.length = s ∧ o + v.cells.length ≤ cs.length ∧ ones v.cells = true then fillV pl (wr cs o v.cells) r else none

/-- Two ways, by a boolean. -/
def gcase (t : Bool) (A B : Prop) : Prop := (t = true → A) ∧ (t = false → B)

theorem gcase_yes {t b : Bool} {A B : Prop} (h : gcase (t == b) A B) (e : t = b) : A := h.1 (by subst e; cases t <;> rfl)
theorem gcase_no {t b : Bool} {A B : Prop} (h : gcase (t == b) A B) (e : t = !b) : B := h.2 (by subst e; cases b <;> rfl)

/-- What a guard lets go on: an operation whose guard was itself passed over is passed over. -/
def guardP (b : Bool) (x : V) (A B : Prop) : Prop :=
  match x with
  | .x (.bool t) => gcase (t == b) A B
  | .x (.tuple _) => B
  | _ => False

theorem guardP_inv {b : Bool} {x : V} {A B : Prop} (h : guardP b x A B) : (∃ t, x = .x (.bool t) ∧ ((t = b ∧ A) ∨ (t = !b ∧ B))) ∨ (∃ vs, x = .x (.tuple vs) ∧ B) := by
  unfold guardP at h
  split at h
  · rename_i t
    refine .inl ⟨t, rfl, ?_⟩
    by_cases e : t = b
    · exact .inl ⟨e, gcase_yes h e⟩
    · have e' : t = !b := by revert e; cases t <;> cases b <;> decide
      exact .inr ⟨e', gcase_no h e'⟩
  · exact .inr ⟨_, rfl, h⟩
  · exact h.elim

theorem guardP_yes {b : Bool} {A B : Prop} (h : A) : guardP b (.x (.bool b)) A B := ⟨fun _ => h, fun e => absurd e (by simp)⟩
theorem guardP_no {b : Bool} {A B : Prop} (h : B) : guardP b (.x (.bool !b)) A B := ⟨fun e => absurd e (by cases b <;> simp), fun _ => h⟩

def bitsV (op : BinOp) (k : IntKind) (a b : Int) : Int :=
  match op with
  | .and => k.wrap (BitVec.ofInt k.bits a &&& BitVec.ofInt k.bits b).toNat
  | .or => k.wrap (BitVec.ofInt k.bits a ||| BitVec.ofInt k.bits b).toNat
  | .xor => k.wrap (BitVec.ofInt k.bits a ^^^ BitVec.ofInt k.bits b).toNat
  | _ => k.wrap (BitVec.ofInt k.bits a &&& ~~~ BitVec.ofInt k.bits b).toNat

def binW (P : Program) (op : BinOp) (t : Nat) (x y : Value) (K : Value → Prop) : Prop :=
  match op, x, y with
  | .shl, .int k a, .int _ b => 0 ≤ b ∧ K (.int k (k.wrap (a * 2 ^ (min b.toNat k.bits))))
  | .shr, .int k a, .int _ b => 0 ≤ b ∧ K (.int k (a.fdiv (2 ^ (min b.toNat k.bits))))
  | .add, .int k a, .int k' b => k = k' ∧ K (.int k (k.wrap (a + b)))
  | .sub, .int k a, .int k' b => k = k' ∧ K (.int k (k.wrap (a - b)))
  | .mul, .int k a, .int k' b => k = k' ∧ K (.int k (k.wrap (a * b)))
  | .quo, .int k a, .int k' b => k = k' ∧ b ≠ 0 ∧ K (.int k (k.wrap (a.tdiv b)))
  | .rem, .int k a, .int k' b => k = k' ∧ b ≠ 0 ∧ K (.int k (a.tmod b))
  | .and, .int k a, .int k' b => k = k' ∧ K (.int k (bitsV .and k a b))
  | .or, .int k a, .int k' b => k = k' ∧ K (.int k (bitsV .or k a b))
  | .xor, .int k a, .int k' b => k = k' ∧ K (.int k (bitsV .xor k a b))
  | .andNot, .int k a, .int k' b => k = k' ∧ K (.int k (bitsV .andNot k a b))
  | .eql, .int k a, .int k' b => k = k' ∧ K (.bool (a == b))
  | .neq, .int k a, .int k' b => k = k' ∧ K (.bool (a != b))
  | .lss, .int k a, .int k' b => k = k' ∧ K (.bool (decide (a < b)))
  | .leq, .int k a, .int k' b => k = k' ∧ K (.bool (decide (a ≤ b)))
  | .gtr, .int k a, .int k' b => k = k' ∧ K (.bool (decide (a > b)))
  | .geq, .int k a, .int k' b => k = k' ∧ K (.bool (decide (a ≥ b)))
  | .add, .string a, .string b => a.size + b.size ≤ 9223372036854775807 ∧ K (.string (a ++ b))
  | .eql, .string a, .string b => K (.bool (a.toList == b.toList))
  | .neq, .string a, .string b => K (.bool !(a.toList == b.toList))
  | .eql, .bool a, .bool b => P.underlying t = some .bool ∧ K (.bool (a == b))
  | .neq, .bool a, .bool b => P.underlying t = some .bool ∧ K (.bool !(a == b))
  | .eql, .slice none 0 0, .slice none 0 0 => (el P t).isSome = true ∧ K (.bool true)
  | .neq, .slice none 0 0, .slice none 0 0 => (el P t).isSome = true ∧ K (.bool false)
  | _, _, _ => False

def unW (op : UnOp) (x : Value) (K : Value → Prop) : Prop :=
  match op, x with
  | .not, .bool b => K (.bool !b)
  | .neg, .int k n => K (.int k (k.wrap (0 - n)))
  | _, _ => False

/-- A slice against nil. -/
def nilEq (op : BinOp) (b : Bool) (K : Value → Prop) : Prop :=
  match op with
  | .eql => K (.bool b)
  | .neq => K (.bool !b)
  | _ => False

/-- A block that is there in this version. -/
def getB (st : Store) (id ver : Nat) (K : Blk → Prop) : Prop :=
  match st[id]? with
  | some k => k.ver = ver ∧ k.kind ≠ 0 ∧ K k
  | none => False

/-- The cells of a slice (or the bytes of a string). -/
def cellsOf (st : Store) (sz : Nat) : V → (List V → Nat → Prop) → Prop
  | .sl n s f, K => s = sz ∧ K ((List.range n).flatMap fun i => rng (f i) 0 sz) n
  | .ref id ver off n, K => getB st id ver fun k => k.sz = sz ∧ K ((k.cells.drop (off * sz)).take (n * sz)) n
  | .x (.slice none 0 0), K => K [] 0
  | .x (.string s), K => sz = 1 ∧ K (s.data.toList.map fun b => .x (.int .u8 b.toNat)) s.size
  | _, _ => False

def lenW (P : Program) (st : Store) (t : Nat) (x : V) (K : V → Prop) : Prop :=
  match x with
  | .x (.string s) => P.underlying t = some .string ∧ K (.x (.int .i64 s.size))
  | .x (.slice none 0 0) => (el P t).isSome ∧ K (.x (.int .i64 0))
  | .sl n _ _ => (el P t).isSome ∧ K (.x (.int .i64 n))
  | .ref id ver _ n => (el P t).isSome ∧ getB st id ver fun _ => K (.x (.int .i64 n))
  | _ => False

/-- append: the first one is the call's own, or nil. -/
def appW (P : Program) (st : Store) (t tx : Nat) (s x : V) (K : V → Store → Prop) : Prop :=
  match el P t with
  | none => False
  | some e => match inf P e with
    | none => False
    | some (sz, by', _, z) => intT P tx = none ∧ (P.underlying tx).isSome = true ∧ 0 < sz ∧ 0 < by' ∧ z.length = sz ∧ cellsOf st sz x fun cs k =>
      match s with
      | .x (.slice none 0 0) => k * by' ≤ 140737488355328 ∧ (0 < k → K (.ref st.length 0 0 k) (st ++ [⟨2, 0, sz, cs⟩])) ∧ (k = 0 → K s st)
      | .ref id ver off n => getB st id ver fun b => b.sz = sz ∧ (n + k) * by' ≤ 140737488355328 ∧
          K (.ref id (ver + 1) 0 (n + k)) (st.set id ⟨if b.kind = 1 ∧ k = 0 then 1 else 2, ver + 1, sz, (b.cells.drop (off * sz)).take (n * sz) ++ cs⟩)
      | _ => False

/-- cap: of what is not nil some number, its length at least. -/
def capW (P : Program) (st : Store) (t : Nat) (x : V) (K : V → Prop) : Prop :=
  match x with
  | .x (.slice none 0 0) => (el P t).isSome ∧ K (.x (.int .i64 0))
  | _ => False

/-- append of so many zero values to nil. -/
def appZ (P : Program) (st : Store) (t tx : Nat) (s x : V) (K : V → Store → Prop) : Prop :=
  match el P t with
  | none => False
  | some e => match inf P e with
    | none => False
    | some (sz, by', _, z) => intT P tx = some .i64 ∧ 0 < sz ∧ 0 < by' ∧ z.length = sz ∧ ones (z.map .x) = true ∧ match s, x with
      | .x (.slice none 0 0), .x (.int .i64 n) => 0 < n ∧ n * by' ≤ 140737488355328 ∧ K (.ref st.length 0 0 n.toNat) (st ++ [⟨2, 0, sz, (List.replicate n.toNat (z.map .x)).flatten⟩])
      | _, _ => False

def buW (P : Program) (st : Store) (b : Builtin) (ts : List Nat) (as : List V) (K : V → Store → Prop) : Prop :=
  match b, ts, as with
  | .len, [t], [x] => lenW P st t x fun v => K v st
  | .append, [t, tx], [s, x] => if intT P tx = none then appW P st t tx s x K else appZ P st t tx s x K
  | .cap, [t], [x] => capW P st t x fun v => K v st
  | .min, _, [.x (.int k a), .x (.int k' b)] => k = k' ∧ K (.x (.int k (if b < a then b else a))) st
  | .max, _, [.x (.int k a), .x (.int k' b)] => k = k' ∧ K (.x (.int k (if b > a then b else a))) st
  | _, _, _ => False

/-- A bound of a slice. -/
def bdW (d : Int) : Option V → Option Int
  | none => some d
  | some (.x (.int _ n)) => some n
  | _ => none

/-- s[lo:hi]. -/
def slW (P : Program) (st : Store) (t : Nat) (x : V) (lo hi : Option V) (K : V → Prop) : Prop :=
  match x with
  | .x (.string s) => P.underlying t = some .string ∧ match bdW 0 lo, bdW s.size hi with
    | some l, some h => 0 ≤ l ∧ l ≤ h ∧ h ≤ s.size ∧ K (.x (.string (s.extract l.toNat h.toNat)))
    | _, _ => False
  | .sl n sz f => ((el P t).bind (inf P)).map (·.1) = some sz ∧ match bdW 0 lo, bdW n hi with
    | some l, some h => 0 ≤ l ∧ l ≤ h ∧ h ≤ n ∧ K (.sl (h - l).toNat sz (cut (h - l).toNat sz fun i => f (l.toNat + i)))
    | _, _ => False
  | .x (.slice none 0 0) => ((el P t).bind (inf P)).isSome ∧ match bdW 0 lo, bdW 0 hi with
    | some l, some h => l = 0 ∧ h = 0 ∧ K x
    | _, _ => False
  | .ref id ver off n => getB st id ver fun k => ((el P t).bind (inf P)).map (·.1) = some k.sz ∧ match bdW 0 lo, bdW n hi with
    | some l, some h => 0 ≤ l ∧ l ≤ h ∧ h ≤ n ∧ K (.ref id ver (off + l.toNat) (h - l).toNat)
    | _, _ => False
  | _ => False

/-- A call of function f with these values over this store: what is asked of what it hands back and leaves. -/
def Spec (P : Program) (f : Nat) (args : List V) (st : Store) (Q : V → Store → Prop) : Prop :=
  (∃ fn, P.funcs[f]? = some fn ∧ fn.body.isSome = true ∧ (fn.name == "runtime.NumGoroutine") = false) ∧
  ∀ μ w R (vals : List Value), SOk st μ w R → args.length = vals.length → (∀ (k : Nat) c v, args[k]? = some c → vals[k]? = some v → RepV st μ w R c v) →
    Calls P f vals.toArray w fun e w' => ∃ r val st' μ' R', e = .returned val ∧ Ext st μ w R st' μ' w' R' ∧ SOk st' μ' w' R' ∧ RepV st' μ' w' R' r val ∧ Q r st'

/-- Cells that are bytes. -/
def bytesV : List V → Option (List UInt8)
  | [] => some []
  | .x (.int .u8 n) :: r => (bytesV r).map (UInt8.ofNat n.toNat :: ·)
  | _ => none

/-- A list of bytes becomes a text. -/
def cvB (P : Program) (st : Store) (s d : Nat) (c : V) (K : V → Prop) : Prop :=
  P.underlying d = some .string ∧ match el P s with
  | some e => intT P e = some .u8 ∧ match c with
    | .x (.string _) => False
    | c => cellsOf st 1 c fun cs _ => match bytesV cs with
      | some bs => K (.x (.string ⟨bs.toArray⟩))
      | none => False
  | none => False

def opW (P : Program) (ρ : Env) (st : Store) (o : O) (K : V → Store → Prop) : Prop :=
  match o with
  | .mv x => K (ev ρ x) st
  | .pk c a b => match ev ρ c with
    | .x (.bool t) => K (sel t (ev ρ a) (ev ρ b)) st
    | _ => False
  | .al t => match inf P t with
    | some (_, _, _, z) => ones (z.map .x) = true ∧ K (.ptr st.length 0 0) (st ++ [⟨2, 0, 1, z.map .x⟩])
    | none => False
  | .bx t x => ones (ev ρ x).cells = true ∧ K (.ptr st.length 0 0) (st ++ [⟨2, 0, 1, (ev ρ x).cells⟩])
  | .bd t ps => match inf P t with
    | some (_, _, _, z) => match flds P t with
      | some L => match fillV (fun i => L[i]?) (z.map .x) (evps ρ ps) with
        | some cs => K (.agg cs) st
        | none => False
      | none => False
    | none => False
  | .bs t n ps => match el P t with
    | some e => match inf P e with
      | some (sz, _, _, z) => z.length = sz ∧ n * sz ≤ 16777216 ∧ match fillV (fun i => some (i * sz, sz)) ((List.replicate n (z.map .x)).flatten) (evps ρ ps) with
        | some cs => ones cs = true ∧ K (.ref st.length 0 0 n) (st ++ [⟨2, 0, sz, cs⟩])
        | none => False
      | none => False
    | none => False
  | .bz t n ps => match el P t with
    | some e => match inf P e with
      | some (sz, _, _, z) => z.length = sz ∧ n * sz ≤ 16777216 ∧ match fillV (fun i => some (i * sz, sz)) ((List.replicate n (z.map .x)).flatten) (evps ρ ps) with
        | some cs => ones cs = true ∧ V.pure.all cs = true ∧ K (.sl n sz (cut n sz fun i j => (cs[i * sz + j]?).getD .bad)) st
        | none => False
      | none => False
    | none => False
  | .ld t x => match inf P t with
    | some (n, _, ag, _) => match ev ρ x with
      | .ip m sz f i j => if ag then j + n ≤ sz ∧ K (.agg (rng (f i) j n)) st else j < sz ∧ K (f i j) st
      | .ptr id ver off => getB st id ver fun k => if ag then off + n ≤ k.cells.length ∧ K (.agg ((k.cells.drop off).take n)) st else
          match k.cells[off]? with
          | some c => K c st
          | none => False
      | _ => False
    | none => False
  | .st t a v => match inf P t with
    | some (n, _, _, _) => match ev ρ a with
      | .ptr id ver off => getB st id ver fun k => (ev ρ v).cells.length = n ∧ off + n ≤ k.cells.length ∧ ones (ev ρ v).cells = true ∧
          K .bad (st.set id { k with cells := wr k.cells off (ev ρ v).cells })
      | _ => False
    | none => False
  | .nc x => match ev ρ x with
    | .ip m sz f i j => K (.ip m sz f i j) st
    | .ptr id ver off => getB st id ver fun _ => K (.ptr id ver off) st
    | .fn (.func g) cs => K (.fn (.func g) cs) st
    | _ => False
  | .bi op t x y => match ev ρ x, ev ρ y with
    | .x a, .x b => binW P op t a b fun v => K (.x v) st
    | .sl n _ _, .x (.slice none 0 0) => (el P t).isSome = true ∧ ∀ b : Bool, (b = true → n = 0) → nilEq op b fun v => K (.x v) st
    | .ref id ver _ _, .x (.slice none 0 0) => (el P t).isSome = true ∧ getB st id ver fun k => nilEq op (k.kind == 1) fun v => K (.x v) st
    | _, _ => False
  | .un op x => match ev ρ x with
    | .x a => unW op a fun v => K (.x v) st
    | _ => False
  | .cv s d x => match ev ρ x with
    | .x (.int _ n) => match intT P d with
      | some k => (P.underlying s).isSome = true ∧ K (.x (.int k (k.wrap n))) st
      | none => P.underlying d = some .string ∧ (P.underlying s).isSome = true ∧ K (.x (.string (Utf8.encode n))) st
    | .x (.string s') => P.underlying d = some .string ∧ (intT P s = none) ∧ (P.underlying s).isSome = true ∧ K (.x (.string s')) st
    | c => cvB P st s d c fun v => K v st
  | .mf g cs => K (.fn g (evs ρ cs)) st
  | .ms t l c => match el P t with
    | some e => match inf P e with
      | some (sz, by', _, z) => match ev ρ l, ev ρ c with
        | .x (.int .i64 l), .x (.int .i64 c) => z.length = sz ∧ 0 < sz ∧ ones (z.map .x) = true ∧ 0 ≤ l ∧ l ≤ c ∧ c ≤ 9223372036854775807 ∧ c * by' ≤ 140737488355328 ∧
            K (.ref st.length 0 0 l.toNat) (st ++ [⟨2, 0, sz, (List.replicate l.toNat (z.map .x)).flatten⟩])
        | _, _ => False
      | none => False
    | none => False
  | .sl t x lo hi => slW P st t (ev ρ x) (lo.map (ev ρ)) (hi.map (ev ρ)) fun v => K v st
  | .fa t x k => match fo P t k with
    | some (o, ft) => match inf P ft with
      | some (n, _, _, _) => n ≠ 0 ∧ match ev ρ x with
        | .ip m sz f i j => K (.ip m sz f i (j + o)) st
        | .ptr id ver off => getB st id ver fun _ => K (.ptr id ver (off + o)) st
        | _ => False
      | none => False
    | none => False
  | .fl t x k => match fo P t k with
    | some (o, ft) => match inf P ft with
      | some (n, _, ag, _) => match ev ρ x with
        | .agg cs => if ag then o + n ≤ cs.length ∧ K (.agg ((cs.drop o).take n)) st else match cs[o]? with
          | some c => K c st
          | none => False
        | _ => False
      | none => False
    | none => False
  | .ia t x i => match ev ρ i with
    | .x (.int ik i) => match el P t with
      | some e => match inf P e with
        | some (sz, _, _, _) => match ev ρ x with
          | .sl n s f => s = sz ∧ 0 ≤ i ∧ i < n ∧ K (.ip n sz f i.toNat 0) st
          | .ref id ver off n => getB st id ver fun b => b.sz = sz ∧ 0 ≤ i ∧ i < n ∧ K (.ptr id ver ((off + i.toNat) * sz)) st
          | _ => False
        | none => False
      | none => match arr P t with
        | some (n, e) => match inf P e with
          | some (sz, _, _, _) => match ev ρ x with
            | .ptr id ver off => getB st id ver fun _ => 0 ≤ i ∧ i < n ∧ K (.ptr id ver (off + i.toNat * sz)) st
            | .ip m s f a j => 0 ≤ i ∧ i < n ∧ K (.ip m s f a (j + i.toNat * sz)) st
            | _ => False
          | none => False
        | none => False
    | _ => False
  | .ix t x i => match ev ρ i, ev ρ x with
    | .x (.int _ i), .x (.string s) => P.underlying t = some .string ∧ 0 ≤ i ∧ i < s.size ∧ K (.x (.int .u8 ((s.data.toList.getD i.toNat 0).toNat))) st
    | _, _ => False
  | .ex x k => match ev ρ x with
    | .tup vs => match vs[k]? with
      | some v => K v st
      | none => False
    | _ => False
  | .ca f as => Spec P f (evs ρ as) st K
  | .cd x as => match ev ρ x with
    | .fn (.func f) cs => Spec P f (evs ρ as ++ cs) st K
    | _ => False
  | .bu b ts as => buW P st b ts (evs ρ as) K
  | .ot => False

end Go.VS
