/- A symbolic evaluator for the translated code, and what its results mean: definitions. -/
import Derived.Deep.Quiet
import Derived.Below
import Derived.WalkKit
namespace Go.Sx
open Go Go.RowKit
inductive N where
 | c (n : Nat)
 | s (n : Nat)
def N.v : N → Nat
 | .c n => n
 | .s n => n
def N.add : N → N → N
 | .c a, .c b => .c (a + b)
 | .c a, .s b => match a with | 0 => .s b | a + 1 => .s (a + 1 + b)
 | .s a, .c b => match b with | 0 => .s a | b + 1 => .s (a + (b + 1))
 | .s a, .s b => .s (a + b)
def N.sub : N → N → N
 | .c a, .c b => .c (a - b)
 | .s a, .c b => match b with | 0 => .s a | b + 1 => .s (a - (b + 1))
 | x, y => .s (x.v - y.v)
inductive C where
 | raw (v : Value)
 | int (k : IntKind) (n : Int)
 | sint (k : IntKind) (n : Int)
 | bool (b : Bool)
 | sbool (b : Bool)
 | str (l : List UInt8)
 | sstr (l : List UInt8)
 | nilp
 | ptr (b : Nat) (i : N) (st sub : Nat)
 | nils
 | slice (b : Nat) (i : N) (st : Nat) (len cl : N)
 | clos (f : FuncId) (caps : List Nat)
 | mapr (b : Nat)
inductive V1 where
 | one (c : C)
 | agg (l : List C)
 | aggi (k : IntKind) (l : List Int)
inductive V where
 | v (x : V1)
 | tup (l : List V1)
inductive Cells where
 | exp (l : List C)
 | ints (k : IntKind) (l : List Int)
 | recs (ks : List IntKind) (l : List (List Int))
 | imap (kk : IntKind) (l : List (Int × V1))
 | dead
def Cells.live : Cells → Bool
 | .dead => false
 | .imap _ _ => false
 | _ => true
structure SB where
 own : Bool
 c : Cells
structure E where
 blk : Nat
 off : Nat
 sz : Nat
abbrev Env := List E
def C.rel (ρ : Env) : C → Value → Prop
 | .raw v, u => u = v
 | .int k n, u => u = .int k n
 | .sint k n, u => u = .int k n
 | .bool b, u => u = .bool b
 | .sbool b, u => u = .bool b
 | .str l, u => u = .string ⟨l.toArray⟩
 | .sstr l, u => u = .string ⟨l.toArray⟩
 | .nilp, u => u = .pointer none
 | .ptr b i st sub, u => ∃ e, ρ[b]? = some e ∧ u = .pointer (some ⟨e.blk, e.off + (i.v * st + sub), none⟩)
 | .nils, u => u = .slice none 0 0
 | .slice b i st len cl, u => ∃ e, ρ[b]? = some e ∧ ((len.v = 0 ∧ cl.v = 0 ∧ u = .slice none 0 0) ∨
   ∃ o cap, u = .slice (some ⟨e.blk, o, none⟩) len.v cap ∧ len.v ≤ cl.v ∧ cl.v ≤ cap ∧ cap ≤ maxLen ∧ (cap = 0 ∨ (o = e.off + i.v * st ∧ o + cap * st ≤ e.sz)))
 | .clos f caps, u => ∃ es : List E, caps.map (fun b => ρ[b]?) = es.map some ∧ u = .func (.func f) #[] (es.map fun e => Value.pointer (some ⟨e.blk, e.off, none⟩)).toArray
 | .mapr b, u => ∃ e, ρ[b]? = some e ∧ u = .map (some e.blk)
def relL (ρ : Env) : List C → List Value → Prop
 | [], us => us = []
 | c :: cs, us => ∃ u r, us = u :: r ∧ c.rel ρ u ∧ relL ρ cs r
def V1.rel (ρ : Env) : V1 → Value → Prop
 | .one c, u => c.rel ρ u ∧ u.oneCell' = true
 | .agg l, u => ∃ us, u = .agg us.toArray ∧ relL ρ l us ∧ ∀ x ∈ us, x.oneCell' = true
 | .aggi k l, u => u = .agg (l.map (Value.int k)).toArray
def relL1 (ρ : Env) : List V1 → List Value → Prop
 | [], us => us = []
 | c :: cs, us => ∃ u r, us = u :: r ∧ c.rel ρ u ∧ relL1 ρ cs r
def V.rel (ρ : Env) : V → Value → Prop
 | .v x, u => x.rel ρ u
 | .tup l, u => ∃ us, u = .tuple us.toArray ∧ relL1 ρ l us
def Cells.rel (ρ : Env) (g : Nat → Option Value) : Cells → Prop
 | .exp l => ∀ j c, l[j]? = some c → ∃ u, g j = some u ∧ c.rel ρ u ∧ u.oneCell' = true
 | .ints k l => ∀ j n, l[j]? = some n → g j = some (.int k n)
 | .recs ks l => ∀ i r, l[i]? = some r → r.length = ks.length ∧ ∀ j n k, r[j]? = some n → ks[j]? = some k → g (i * ks.length + j) = some (.int k n)
 | .imap _ _ => True
 | .dead => True
def SB.rel (ρ : Env) (w : World) (e : E) (s : SB) : Prop :=
 s.c.live = true → ∃ cur ty fz, (e.sz = 0 ∨ w.heap[e.blk]? = some (.cells cur ty fz)) ∧ cur.size = e.sz ∧
  (s.own = true → ∀ j, j < cur.size → (decide (fz.1 ≤ j) && decide (j < fz.2)) = false) ∧ s.c.rel ρ (fun j => cur[e.off + j]?)
structure Kept (K : Nat → Prop) (w w' : World) : Prop where
 os : w'.os = w.os
 tape : w'.tape = w.tape
 output : w'.output = w.output
 size : w.heap.size ≤ w'.heap.size
 block : ∀ k, K k → w'.heap[k]? = w.heap[k]?
def upto (w : World) : Nat → Prop := fun k => k < w.heap.size
def entRel (ρ : Env) (kk : IntKind) : List (Int × V1) → List MapEntry → Prop
 | [], es => es = []
 | (n, v) :: r, es => ∃ e r', es = e :: r' ∧ e.key = .int kk n ∧ v.rel ρ e.val ∧ entRel ρ kk r r'
def MapAt (ρ : Env) (w : World) (b : Nat) (kk : IntKind) (l : List (Int × V1)) : Prop :=
 ∃ es clock, w.heap[b]? = some (.map es clock) ∧ entRel ρ kk l es.toList
def solid (c : Cells) (e : E) : Prop := (c.live = true ∧ 0 < e.sz) ∨ ∃ kk l, c = .imap kk l
structure MemRel (ρ : Env) (B : Nat → Prop) (W w : World) (mem : List SB) : Prop where
 below : Kept B W w
 base : ∀ k, B k → k < w.heap.size
 len : ρ.length = mem.length
 blk : ∀ (i : Nat) (e : E) (s : SB), ρ[i]? = some e → mem[i]? = some s → s.rel ρ w e
 own : ∀ (i : Nat) (e : E) (s : SB), ρ[i]? = some e → mem[i]? = some s → s.own = true → solid s.c e → ¬ B e.blk
 sep : ∀ (i j : Nat) (e e' : E) (s s' : SB), i ≠ j → ρ[i]? = some e → ρ[j]? = some e' → mem[i]? = some s → mem[j]? = some s' →
  s.own = true → s.c.live = true → s'.c.live = true → 0 < e.sz → 0 < e'.sz → e.blk ≠ e'.blk
 maps : ∀ (i : Nat) (e : E) (s : SB) (kk : IntKind) (l : List (Int × V1)), ρ[i]? = some e → mem[i]? = some s → s.c = .imap kk l → MapAt ρ w e.blk kk l
 msep : ∀ (i j : Nat) (e e' : E) (s s' : SB) (kk kk' : IntKind) (l l' : List (Int × V1)), i ≠ j → ρ[i]? = some e → ρ[j]? = some e' → mem[i]? = some s → mem[j]? = some s' →
  s.c = .imap kk l → s'.c = .imap kk' l' → e.blk ≠ e'.blk
theorem Kept.refl (B : Nat → Prop) (w : World) : Kept B w w := ⟨rfl, rfl, rfl, Nat.le_refl _, fun _ _ => rfl⟩
theorem Kept.trans {B : Nat → Prop} {a b c : World} (h : Kept B a b) (k : Kept B b c) : Kept B a c :=
 ⟨k.os.trans h.os, k.tape.trans h.tape, k.output.trans h.output, Nat.le_trans h.size k.size, fun i hi => (k.block i hi).trans (h.block i hi)⟩
theorem Kept.mono {B B' : Nat → Prop} {w w' : World} (h : Kept B w w') (hB : ∀ k, B' k → B k) : Kept B' w w' := ⟨h.os, h.tape, h.output, h.size, fun k hk => h.block k (hB k hk)⟩
theorem Kept.drew {B : Nat → Prop} {a w : World} (h : Kept B a w) : Kept B a w.drew := ⟨h.os, h.tape, h.output, h.size, h.block⟩
theorem Kept.alloc {B : Nat → Prop} {a w : World} (h : Kept B a w) (hB : ∀ k, B k → k < w.heap.size) (o : Obj) : Kept B a (w.alloc o) :=
 h.trans ⟨rfl, rfl, rfl, by simp, fun k hk => Below.heap_alloc _ _ _ (hB k hk)⟩
theorem Kept.toBelow {w w' : World} (h : Kept (upto w) w w') : Below w.heap.size w w' := ⟨h.os, h.tape, h.output, h.size, h.block⟩
abbrev Slots := List (Nat × V)
def look : Slots → Nat → Option V
 | [], _ => none
 | (i, v) :: r, t => match Nat.beq i t with
  | true => some v
  | false => look r t
structure SlotsRel (ds : List Deferred) (ρ : Env) (n : Nat) (sl : Slots) (a : Act) : Prop where
 size : a.tmps.size = n
 defers : a.defers = ds
 slot : ∀ t v, look sl t = some v → v.rel ρ (a.tmps.getD t undef)
def ofC : Value → C
 | .int k n => .int k n
 | .bool b => .bool b
 | .string s => .str s.data.toList
 | .pointer none => .nilp
 | .slice none 0 0 => .nils
 | v => .raw v
def ofV : Value → Option V
 | .agg cs => match cs.toList.all Value.oneCell' with
  | true => some (.v (.agg (cs.toList.map ofC)))
  | false => none
 | .tuple _ => none
 | v => some (.v (.one (ofC v)))
def evO (sl : Slots) : Operand → Option V
 | .tmp t => look sl t
 | .const v => ofV v
 | .global _ => none
 | .func f => some (.v (.one (.clos f [])))
def one (c : C) : Option (V × List Prop) := some (.v (.one c), [])
def oneP (c : C) (ps : List Prop) : Option (V × List Prop) := some (.v (.one c), ps)
def isAggT (P : Program) (t : TypeId) : Option Bool :=
 match P.underlying t with
 | some (.struct _) => some true
 | some (.array _ _) => some true
 | some _ => some false
 | none => none
def arI (op : BinOp) (x y : Int) : Option Int :=
 match op with
 | .add => some (x + y)
 | .sub => some (x - y)
 | .mul => some (x * y)
 | _ => none
def cmpI (op : BinOp) (x y : Int) : Option Bool :=
 match op with
 | .eql => some (decide (x = y))
 | .neq => some (!decide (x = y))
 | .lss => some (decide (x < y))
 | .leq => some (decide (x ≤ y))
 | .gtr => some (decide (y < x))
 | .geq => some (decide (y ≤ x))
 | _ => none
def bitI (op : BinOp) (k : IntKind) (x y : Int) : Option Int :=
 match op with
 | .and => some (bits .and k x y)
 | .or => some (bits .or k x y)
 | .xor => some (bits .xor k x y)
 | .andNot => some (bits .andNot k x y)
 | _ => none
def shI (op : BinOp) (k : IntKind) (x y : Int) : Option Int :=
 match op with
 | .shl => some (k.wrap (x * 2 ^ (min y.toNat k.bits)))
 | .shr => some (x.fdiv (2 ^ (min y.toNat k.bits)))
 | _ => none
inductive OpMake where | ar | dv | bt | sh | cp
def opMake : BinOp → OpMake
 | .add | .sub | .mul => .ar
 | .quo | .rem => .dv
 | .and | .or | .xor | .andNot => .bt
 | .shl | .shr => .sh
 | .eql | .neq | .lss | .leq | .gtr | .geq => .cp
def inK (k : IntKind) (n : Int) : Prop := k.min ≤ n ∧ n ≤ k.max
def binCC (op : BinOp) (k : IntKind) (x y : Int) : Option (V × List Prop) :=
 match opMake op with
 | .ar => match arI op x y with | some n => one (.int k (k.wrap n)) | none => none
 | .dv => match decide (y = 0) with
  | true => none
  | false => match op with
   | .quo => one (.int k (k.wrap (x.tdiv y)))
   | .rem => one (.int k (x.tmod y))
   | _ => none
 | .bt => match bitI op k x y with | some n => one (.int k n) | none => none
 | .sh => none
 | .cp => match cmpI op x y with | some b => one (.bool b) | none => none
def binSS (op : BinOp) (k : IntKind) (x y : Int) : Option (V × List Prop) :=
 match opMake op with
 | .ar => match arI op x y with
  | some n => match k with
   | .i64 => oneP (.sint k n) [inK k n]
   | _ => one (.sint k (k.wrap n))
  | none => none
 | .dv => match op with
   | .quo => oneP (.sint k (x.tdiv y)) [y ≠ 0, inK k (x.tdiv y)]
   | .rem => oneP (.sint k (x.tmod y)) [y ≠ 0]
   | _ => none
 | .bt => match bitI op k x y with | some n => one (.sint k n) | none => none
 | .sh => none
 | .cp => match cmpI op x y with | some b => one (.sbool b) | none => none
def shCC (op : BinOp) (k : IntKind) (x y : Int) : Option (V × List Prop) :=
 match decide (y < 0) with
 | true => none
 | false => match shI op k x y with | some n => one (.int k n) | none => none
def shSS (op : BinOp) (k : IntKind) (x y : Int) : Option (V × List Prop) :=
 match shI op k x y with | some n => oneP (.sint k n) [0 ≤ y] | none => none
def shSC (op : BinOp) (k : IntKind) (x y : Int) : Option (V × List Prop) :=
 match decide (y < 0) with
 | true => none
 | false => match shI op k x y with | some n => one (.sint k n) | none => none
def binSC (op : BinOp) (k : IntKind) (x y : Int) : Option (V × List Prop) :=
 match opMake op with
 | .dv => match decide (y = 0) with
  | true => none
  | false => match op with
   | .quo => oneP (.sint k (x.tdiv y)) [inK k (x.tdiv y)]
   | .rem => oneP (.sint k (x.tmod y)) []
   | _ => none
 | _ => binSS op k x y
def eqB (op : BinOp) (b : Bool) : Option Bool :=
 match op with
 | .eql => some b
 | .neq => some (!b)
 | _ => none
def strOp (op : BinOp) (x y : List UInt8) : Option Bool :=
 match op with
 | .eql => some (x == y)
 | .neq => some (!(x == y))
 | .lss => some (Op.bytesLess x y)
 | .leq => some (Op.bytesLess x y || x == y)
 | .gtr => some (!(Op.bytesLess x y || x == y))
 | .geq => some (!(Op.bytesLess x y))
 | _ => none
def eqC : C → C → Option (Bool × Bool)
 | .int _ x, .int _ y => some (true, decide (x = y))
 | .int _ x, .sint _ y => some (false, decide (x = y))
 | .sint _ x, .int _ y => some (false, decide (x = y))
 | .sint _ x, .sint _ y => some (false, decide (x = y))
 | .bool x, .bool y => some (true, x == y)
 | .bool x, .sbool y => some (false, x == y)
 | .sbool x, .bool y => some (false, x == y)
 | .sbool x, .sbool y => some (false, x == y)
 | .str x, .str y => some (true, x == y)
 | .str x, .sstr y => some (false, x == y)
 | .sstr x, .str y => some (false, x == y)
 | .sstr x, .sstr y => some (false, x == y)
 | _, _ => none
def intOfC : IntKind → C → Option Int
 | k, .int k' n => match decide (k = k') with | true => some n | false => none
 | k, .sint k' n => match decide (k = k') with | true => some n | false => none
 | _, _ => none
def intsOf (k : IntKind) : List C → Option (List Int)
 | [] => some []
 | c :: r => match intOfC k c with
  | none => none
  | some n => match intsOf k r with
   | none => none
   | some l => some (n :: l)
def rowOf : List IntKind → List C → Option (List Int)
 | [], [] => some []
 | k :: ks, c :: r => match intOfC k c with
  | none => none
  | some n => match rowOf ks r with
   | none => none
   | some l => some (n :: l)
 | _, _ => none
def cellsOfRow (x : List Int) : List IntKind → Nat → List C
 | [], _ => []
 | k :: ks, j => .sint k (x.getD j 0) :: cellsOfRow x ks (j + 1)
def kindL : List C → Option IntKind
 | .int k _ :: _ => some k
 | .sint k _ :: _ => some k
 | _ => none
def ldC : Cells → N → Nat → Nat → Option (C × List Prop)
 | .exp l, .c n, st, sub => match l[n * st + sub]? with
  | some c => some (c, [])
  | none => none
 | .exp l, .s n, 1, 0 => match kindL l with
  | some k => match intsOf k l with
   | some l' => some (.sint k (l'.getD n 0), [n < l'.length])
   | none => none
  | none => none
 | .ints k l, i, 1, 0 => some (.sint k (l.getD i.v 0), [i.v < l.length])
 | .recs ks l, i, st, sub => match Nat.beq st ks.length with
  | true => match ks[sub]? with
   | some k => some (.sint k ((l.getD i.v []).getD sub 0), [i.v < l.length])
   | none => none
  | false => none
 | _, _, _, _ => none
def ldA : Cells → N → Nat → Nat → Nat → Option (V × List Prop)
 | .exp l, .c n, st, sub, sz => match Nat.ble (n * st + sub + sz) l.length with
  | true => some (.v (.agg ((l.drop (n * st + sub)).take sz)), [])
  | false => none
 | .ints k l, .c 0, _, 0, sz => some (.v (.aggi k l), [l.length = sz])
 | .recs ks l, i, st, 0, sz => match Nat.beq st ks.length && Nat.beq sz ks.length with
  | true => some (.v (.agg (cellsOfRow (l.getD i.v []) ks 0)), [i.v < l.length])
  | false => none
 | .recs ks l, i, st, s + 1, sz => match Nat.beq st ks.length && Nat.ble (s + 1 + sz) ks.length with
  | true => some (.v (.agg (cellsOfRow (l.getD i.v []) ((ks.drop (s + 1)).take sz) (s + 1))), [i.v < l.length])
  | false => none
 | _, _, _, _, _ => none
def blkC (m : List SB) (b : Nat) : Cells :=
 match m[b]? with
 | some s => s.c
 | none => .dead
def stA : Cells → N → Nat → Nat → V1 → Option (Cells × List Prop)
 | .exp l, .c n, st, sub, .one c => match Nat.blt (n * st + sub) l.length with
  | true => some (.exp (l.set (n * st + sub) c), [])
  | false => none
 | .exp l, .c n, st, sub, .agg cs => match Nat.ble (n * st + sub + cs.length) l.length with
  | true => some (.exp (l.take (n * st + sub) ++ (cs ++ l.drop (n * st + sub + cs.length))), [])
  | false => none
 | .exp l, .c 0, _, 0, .aggi k ns => some (.ints k ns, [ns.length = l.length])
 | .ints k l, i, 1, 0, .one c => match intOfC k c with
  | some n => some (.ints k (l.set i.v n), [i.v < l.length])
  | none => none
 | .ints k l, .c 0, _, 0, .aggi k' ns => match decide (k = k') with
  | true => some (.ints k ns, [ns.length = l.length])
  | false => none
 | .recs ks l, i, st, sub, .one c => match Nat.beq st ks.length with
  | true => match ks[sub]? with
   | some k => match intOfC k c with
    | some n => some (.recs ks (l.set i.v ((l.getD i.v []).set sub n)), [i.v < l.length])
    | none => none
   | none => none
  | false => none
 | .recs ks l, i, st, 0, .agg cs => match Nat.beq st ks.length with
  | true => match rowOf ks cs with
   | some r => some (.recs ks (l.set i.v r), [i.v < l.length])
   | none => none
  | false => none
 | _, _, _, _, _ => none
def setBlk (m : List SB) (b : Nat) (c : Cells) : List SB :=
 match m[b]? with
 | some s => m.set b { s with c := c }
 | none => m
def ownB (m : List SB) (b : Nat) : Bool :=
 match m[b]? with
 | some s => s.own && s.c.live
 | none => false
def cellsV : V1 → Cells
 | .one c => .exp [c]
 | .agg l => .exp l
 | .aggi k l => .ints k l
def szT (P : Program) (t : TypeId) : Nat :=
 match P.info? t with
 | some i => i.size
 | none => 0
def ixN : C → N → Option (N × List Prop)
 | .int _ j, .c n => match decide (0 ≤ j) && decide (j < n) with
  | true => some (.c j.toNat, [])
  | false => none
 | .int _ j, .s n => match decide (0 ≤ j) with
  | true => some (.c j.toNat, [j < n])
  | false => none
 | .sint _ j, n => some (.s j.toNat, [0 ≤ j, j < n.v])
 | _, _ => none
def cutN : C → N → Option (N × List Prop)
 | .int _ j, .c n => match decide (0 ≤ j) && decide (j ≤ n) with
  | true => some (.c j.toNat, [])
  | false => none
 | .int _ j, .s n => match decide (j = 0) with
  | true => some (.c 0, [])
  | false => match decide (0 ≤ j) with
   | true => some (.c j.toNat, [j ≤ n])
   | false => none
 | .sint _ j, n => some (.s j.toNat, [0 ≤ j, j ≤ n.v])
 | _, _ => none
def lenN (k : N) : C :=
 match k with
 | .c n => .int .i64 n
 | .s n => .sint .i64 n
def cOf (v : Option V) : Option C :=
 match v with
 | some (.v (.one c)) => some c
 | _ => none
def rng (len cl : N) : Option C → Option C → Option (N × N × List Prop)
 | none, none => some (.c 0, len, [])
 | none, some h => match cutN h cl with
  | some (hn, ps) => some (.c 0, hn, ps)
  | none => none
 | some l, none => match cutN l len with
  | some (ln, ps) => some (ln, len, ps)
  | none => none
 | some l, some h => match cutN h cl with
  | some (hn, ps) => match cutN l hn with
   | some (ln, qs) => some (ln, hn, ps ++ qs)
   | none => none
  | none => none
def optC (sl : Slots) : Option Operand → Option (Option C)
 | none => some none
 | some o => match cOf (evO sl o) with
  | some c => some (some c)
  | none => none
def fits (c : Cells) (k : Nat) : Option (List Prop) :=
 match c with
 | .exp l => match Nat.ble k l.length with
  | true => some []
  | false => none
 | .ints _ l => some [k ≤ l.length]
 | .recs ks l => some [k ≤ l.length * ks.length]
 | .imap _ _ => none
 | .dead => none
def evSlice (P : Program) (m : List SB) (t : TypeId) (x : C) (lo hi : Option C) : Option (V × List Prop) :=
 match P.underlying t, x with
 | some .string, .str l => match rng (.c l.length) (.c l.length) lo hi with
  | some (.c a, .c b, ps) => oneP (.str ((l.take b).drop a)) ps
  | some (a, b, ps) => oneP (.sstr ((l.take b.v).drop a.v)) ps
  | none => none
 | some .string, .sstr l => match rng (.s l.length) (.s l.length) lo hi with
  | some (a, b, ps) => oneP (.sstr ((l.take b.v).drop a.v)) ps
  | none => none
 | some (.slice e), .slice b i st len cl => match Nat.beq (szT P e) st && Nat.ble 1 st with
  | true => match rng len cl lo hi with
   | some (a, h, ps) => oneP (.slice b (i.add a) st (h.sub a) (cl.sub a)) ps
   | none => none
  | false => none
 | some (.slice e), .nils => match (P.info? e).isSome, rng (.c 0) (.c 0) lo hi with
  | true, some (_, _, ps) => oneP .nils ps
  | _, _ => none
 | some (.pointer ar), .ptr b i st sub => match P.underlying ar with
  | some (.array n e) => match i, Nat.ble 1 (szT P e) && Nat.ble n 9223372036854775807, fits (blkC m b) (n * szT P e) with
   | .c k, true, some qs => match decide (k * st + sub = 0) with
    | true => match rng (.c n) (.c n) lo hi with
     | some (a, h, ps) => oneP (.slice b a (szT P e) (h.sub a) ((N.c n).sub a)) (ps ++ qs)
     | none => none
    | false => none
   | _, _, _ => none
  | _ => none
 | some (.array n e), .ptr b i st sub => match i, Nat.ble 1 (szT P e) && Nat.ble n 9223372036854775807, fits (blkC m b) (n * szT P e) with
   | .c k, true, some qs => match decide (k * st + sub = 0) with
    | true => match rng (.c n) (.c n) lo hi with
     | some (a, h, ps) => oneP (.slice b a (szT P e) (h.sub a) ((N.c n).sub a)) (ps ++ qs)
     | none => none
    | false => none
   | _, _, _ => none
 | _, _ => none
def evSlice3 (P : Program) (t : TypeId) (x lo hi mx : C) : Option (V × List Prop) :=
 match P.underlying t, x with
 | some (.slice e), .slice b i st _ cl => match Nat.beq (szT P e) st && Nat.ble 1 st, cutN mx cl with
  | true, some (mn, p1) => match cutN hi mn with
   | some (hn, p2) => match cutN lo hn with
    | some (ln, p3) => oneP (.slice b (i.add ln) st (hn.sub ln) (mn.sub ln)) (p1 ++ (p2 ++ p3))
    | none => none
   | none => none
  | _, _ => none
 | _, _ => none
def eqAgg : List C → List C → Option (Bool × Bool)
 | [], [] => some (true, true)
 | x :: xs, y :: ys => match eqC x y with
  | none => none
  | some (c, b) => match eqAgg xs ys with
   | none => none
   | some (c', b') => some (c && c', b && b')
 | _, _ => none
def boolOf (op : BinOp) (r : Option (Bool × Bool)) : Option (V × List Prop) :=
 match r with
 | some (true, b) => match eqB op b with | some b' => one (.bool b') | none => none
 | some (false, b) => match eqB op b with | some b' => one (.sbool b') | none => none
 | none => none
def plainFields (P : Program) : List Field → Nat → Bool
 | [], _ => true
 | f :: r, j => Nat.beq f.offset j && !(f.name == "_") && (match P.underlying f.type with
   | some (.int _) => true
   | some .bool => true
   | some .string => true
   | _ => false) && plainFields P r (j + 1)
def cellKinds (P : Program) : List Field → List C → Bool
 | [], [] => true
 | f :: r, c :: cs => (match P.underlying f.type, c with
   | some (.int k), .int k' _ => decide (k = k')
   | some (.int k), .sint k' _ => decide (k = k')
   | some .bool, .bool _ => true
   | some .bool, .sbool _ => true
   | some .string, .str _ => true
   | some .string, .sstr _ => true
   | _, _ => false) && cellKinds P r cs
 | _, _ => false
def plainFields2 (P : Program) : List Field → Nat → Bool
 | [], _ => true
 | f :: r, j => Nat.beq f.offset j && !(f.name == "_") && (match P.underlying f.type with
   | some (.struct gs) => plainFields P gs.toList 0 && (match P.info? f.type with | some inf => Nat.beq inf.size gs.toList.length | none => false) && !P.stoodInHeld f.type && plainFields2 P r (j + gs.toList.length)
   | some (.int _) => plainFields2 P r (j + 1)
   | _ => false)
def cellKinds2 (P : Program) : List Field → List C → Bool
 | [], [] => true
 | [], _ :: _ => false
 | f :: r, cs => match P.underlying f.type with
   | some (.struct gs) => cellKinds P gs.toList (cs.take gs.toList.length) && cellKinds2 P r (cs.drop gs.toList.length)
   | some (.int k) => match cs with
    | .int k' _ :: cs' => decide (k = k') && cellKinds2 P r cs'
    | .sint k' _ :: cs' => decide (k = k') && cellKinds2 P r cs'
    | _ => false
   | _ => false
def closedL (xs : List C) : Bool := xs.all fun c => match c with | .int _ _ => true | _ => false
def arrV (k : IntKind) : V → Option (Bool × List Int)
 | .v (.aggi k' l) => match decide (k = k') with | true => some (false, l) | false => none
 | .v (.agg xs) => match intsOf k xs with | some l => some (closedL xs, l) | none => none
 | _ => none
def eqArr (P : Program) (op : BinOp) (xt : TypeId) (x y : V) : Option (V × List Prop) :=
 match P.underlying xt with
 | some (.array n e) => match P.underlying e, P.info? e with
  | some (.int k), some inf => match Nat.beq inf.size 1 && !P.eqGuardType P.depth xt, arrV k x, arrV k y with
   | true, some (c, l), some (c', l') => match boolOf op (some (c && c', decide (l = l'))) with
    | some (v, ps) => some (v, [l.length = n, l'.length = n] ++ ps)
    | none => none
   | _, _, _ => none
  | _, _ => none
 | _ => none
def evBin (P : Program) (op : BinOp) (xt : TypeId) : V → V → Option (V × List Prop)
 | .v (.one (.int k x)), .v (.one (.int k' y)) => match opMake op with
  | .sh => shCC op k x y
  | _ => match decide (k = k') with | true => binCC op k x y | false => none
 | .v (.one (.int k x)), .v (.one (.sint k' y)) => match opMake op with
  | .sh => shSS op k x y
  | _ => match decide (k = k') with | true => binSS op k x y | false => none
 | .v (.one (.sint k x)), .v (.one (.int k' y)) => match opMake op with
  | .sh => shSC op k x y
  | _ => match decide (k = k') with | true => binSC op k x y | false => none
 | .v (.one (.sint k x)), .v (.one (.sint k' y)) => match opMake op with
  | .sh => shSS op k x y
  | _ => match decide (k = k') with | true => binSS op k x y | false => none
 | .v (.one (.str x)), .v (.one (.str y)) => match op with
  | .add => match Nat.ble (x.length + y.length) 9223372036854775807 with | true => one (.str (x ++ y)) | false => none
  | _ => match strOp op x y with | some b => one (.bool b) | none => none
 | .v (.one (.str x)), .v (.one (.sstr y)) => match op with
  | .add => oneP (.sstr (x ++ y)) [x.length + y.length ≤ 9223372036854775807]
  | _ => match strOp op x y with | some b => one (.sbool b) | none => none
 | .v (.one (.sstr x)), .v (.one (.str y)) => match op with
  | .add => oneP (.sstr (x ++ y)) [x.length + y.length ≤ 9223372036854775807]
  | _ => match strOp op x y with | some b => one (.sbool b) | none => none
 | .v (.one (.sstr x)), .v (.one (.sstr y)) => match op with
  | .add => oneP (.sstr (x ++ y)) [x.length + y.length ≤ 9223372036854775807]
  | _ => match strOp op x y with | some b => one (.sbool b) | none => none
 | .v (.one (.bool x)), .v (.one (.bool y)) => match P.underlying xt with
  | some .bool => boolOf op (some (true, x == y))
  | _ => none
 | .v (.one (.bool x)), .v (.one (.sbool y)) => match P.underlying xt with
  | some .bool => boolOf op (some (false, x == y))
  | _ => none
 | .v (.one (.sbool x)), .v (.one (.bool y)) => match P.underlying xt with
  | some .bool => boolOf op (some (false, x == y))
  | _ => none
 | .v (.one (.sbool x)), .v (.one (.sbool y)) => match P.underlying xt with
  | some .bool => boolOf op (some (false, x == y))
  | _ => none
 | .v (.one (.ptr _ _ _ _)), .v (.one .nilp) => match P.underlying xt with
  | some (.pointer _) => boolOf op (some (true, false))
  | _ => none
 | .v (.one .nilp), .v (.one .nilp) => match P.underlying xt with
  | some (.pointer _) => boolOf op (some (true, true))
  | _ => none
 | .v (.one (.slice _ _ _ len _)), .v (.one .nils) => match P.underlying xt, len with
  | some (.slice _), .c (_ + 1) => boolOf op (some (true, false))
  | some (.slice _), .s n => match boolOf op (some (true, false)) with
   | some (v, ps) => some (v, (0 < n) :: ps)
   | none => none
  | _, _ => none
 | .v (.one (.raw (.slice (some _) _ _))), .v (.one .nils) => match P.underlying xt with
  | some (.slice _) => boolOf op (some (true, false))
  | _ => none
 | .v (.one .nils), .v (.one .nils) => match P.underlying xt with
  | some (.slice _) => boolOf op (some (true, true))
  | _ => none
 | .v (.agg xs), .v (.agg ys) => match P.underlying xt with
  | some (.struct fs) => match plainFields P fs.toList 0 && cellKinds P fs.toList xs && cellKinds P fs.toList ys && !P.stoodInHeld xt && !P.eqGuardType P.depth xt with
   | true => boolOf op (eqAgg xs ys)
   | false => match plainFields2 P fs.toList 0 && cellKinds2 P fs.toList xs && cellKinds2 P fs.toList ys && !P.stoodInHeld xt && !P.eqGuardType P.depth xt with
    | true => boolOf op (eqAgg xs ys)
    | false => none
  | _ => eqArr P op xt (.v (.agg xs)) (.v (.agg ys))
 | x, y => eqArr P op xt x y
def evUn (op : UnOp) : C → Option (V × List Prop)
 | .bool b => match op with | .not => one (.bool (!b)) | _ => none
 | .sbool b => match op with | .not => one (.sbool (!b)) | _ => none
 | .int k n => match op with
  | .neg => one (.int k (k.wrap (0 - n)))
  | .xor => one (.int k (bits .xor k (if k.signed then -1 else k.max) n))
  | _ => none
 | .sint k n => match op with
  | .neg => match k with
   | .i64 => oneP (.sint k (0 - n)) [inK k (0 - n)]
   | _ => one (.sint k (k.wrap (0 - n)))
  | .xor => one (.sint k (bits .xor k (if k.signed then -1 else k.max) n))
  | _ => none
 | _ => none
def wider : IntKind → IntKind → Bool
 | .u8, .u16 | .u8, .u32 | .u8, .u64 | .u8, .i16 | .u8, .i32 | .u8, .i64 => true
 | .u16, .u32 | .u16, .u64 | .u16, .i32 | .u16, .i64 => true
 | .u32, .u64 | .u32, .i64 => true
 | .i8, .i16 | .i8, .i32 | .i8, .i64 | .i16, .i32 | .i16, .i64 | .i32, .i64 => true
 | a, b => decide (a = b)
def evConv (P : Program) (src dst : TypeId) : C → Option (V × List Prop)
 | .int _ n => match P.underlying src, P.underlying dst with
  | some (.int _), some (.int k) => one (.int k (k.wrap n))
  | _, _ => none
 | .sint k' n => match P.underlying src, P.underlying dst with
  | some (.int _), some (.int k) => match wider k' k with
   | true => oneP (.sint k n) [inK k n]
   | false => one (.sint k (k.wrap n))
  | _, _ => none
 | .str l => match P.underlying src, P.underlying dst with
  | some .string, some .string => one (.str l)
  | _, _ => none
 | .sstr l => match P.underlying src, P.underlying dst with
  | some .string, some .string => one (.sstr l)
  | _, _ => none
 | _ => none
def mmI : Bool → Int → Int → Int
 | true, x, y => if x < y then y else x
 | false, x, y => if y < x then y else x
def min1 (op : Bool) : C → C → Option (C × List Prop)
 | .int k x, .int _ y => some (.int k (mmI op x y), [])
 | .int k x, .sint _ y => some (.sint k (mmI op x y), [])
 | .sint k x, .int _ y => some (.sint k (mmI op x y), [])
 | .sint k x, .sint _ y => some (.sint k (mmI op x y), [])
 | _, _ => none
def lay (l : List C) (off : Nat) (cs : List C) : List C := l.take off ++ (cs ++ l.drop (off + cs.length))
def fillC (place : Nat → Option (Nat × Nat)) (l : List C) : List (Nat × V) → Option (List C)
 | [] => some l
 | (i, .v (.one c)) :: r => match place i with
  | some (off, sz) => match Nat.beq sz 1 && Nat.ble (off + 1) l.length with
   | true => fillC place (l.set off c) r
   | false => none
  | none => none
 | (i, .v (.agg cs)) :: r => match place i with
  | some (off, sz) => match Nat.beq sz cs.length && Nat.ble (off + sz) l.length with
   | true => fillC place (lay l off cs) r
   | false => none
  | none => none
 | _ => none
def evParts (sl : Slots) : List (Nat × Operand) → Option (List (Nat × V))
 | [] => some []
 | (i, o) :: r => match evO sl o with
  | some v => match evParts sl r with
   | some l => some ((i, v) :: l)
   | none => none
  | none => none
def zeroC (P : Program) (t : TypeId) : Option (List C) :=
 match P.info? t with
 | some i => match i.zero with
  | some z => match z.cells.toList.all Value.oneCell' with
   | true => some (z.cells.toList.map ofC)
   | false => none
  | none => none
 | none => none
def placeOf (P : Program) (t : TypeId) : Option (Nat → Option (Nat × Nat)) :=
 match P.underlying t with
 | some (.struct fs) => match fs.all (fun f => (P.info? f.type).isSome) with
  | true => some fun i => match fs[i]? with
   | some f => some (f.offset, szT P f.type)
   | none => none
  | false => none
 | some (.array _ e) => match (P.info? e).isSome with
  | true => some fun i => some (i * szT P e, szT P e)
  | false => none
 | _ => none
def evBuild (P : Program) (sl : Slots) (t : TypeId) (parts : List (Nat × Operand)) : Option (V × List Prop) :=
 match zeroC P t, placeOf P t, evParts sl parts with
 | some z, some pl, some ps => match fillC pl z ps with
  | some l => some (.v (.agg l), [])
  | none => none
 | _, _, _ => none
def capsOf (sl : Slots) : List Operand → Option (List Nat)
 | [] => some []
 | o :: r => match evO sl o with
  | some (.v (.one (.ptr b (.c n) st sub))) => match Nat.beq (n * st + sub) 0 with
   | true => match capsOf sl r with
    | some l => some (b :: l)
    | none => none
   | false => none
  | _ => none
def findM : List (Int × V1) → Int → Option V1
 | [], _ => none
 | (k, v) :: r, n => match decide (n = k) with
  | true => some v
  | false => findM r n
def setM : List (Int × V1) → Int → V1 → List (Int × V1)
 | [], n, y => [(n, y)]
 | (k, v) :: r, n, y => match decide (n = k) with
  | true => (k, y) :: r
  | false => (k, v) :: setM r n y
def assocI : List (Int × V1) → Int → Int
 | [], _ => 0
 | (k, .one (.int _ x)) :: r, n => if n = k then x else assocI r n
 | _ :: r, n => assocI r n
def intsM (vk : IntKind) : List (Int × V1) → Bool
 | [] => true
 | (_, .one (.int k _)) :: r => match decide (k = vk) with
  | true => intsM vk r
  | false => false
 | _ => false
def zeroV (P : Program) (t : TypeId) : Option V1 :=
 match P.info? t with
 | some i => match i.zero with
  | some z => match ofV z with
   | some (.v x) => some x
   | _ => none
  | none => none
 | none => none
def isIntT (P : Program) (t : TypeId) : Bool :=
 match P.underlying t with
 | some (.int _) => true
 | _ => false
def evLook (P : Program) (m : List SB) (t : TypeId) (b : Nat) (key : C) (ok : Bool) : Option (V × List Prop) :=
 match P.underlying t, blkC m b with
 | some (.map kt et), .imap kk l => match isIntT P kt, zeroV P et with
  | true, some z => match key with
   | .int k n => match decide (k = kk), findM l n, ok with
    | true, some v, false => some (.v v, [])
    | true, none, false => some (.v z, [])
    | true, some v, true => some (.tup [v, .one (.bool true)], [])
    | true, none, true => some (.tup [z, .one (.bool false)], [])
    | _, _, _ => none
   | .sint k n => match decide (k = kk), z, ok with
    | true, .one (.int vk 0), false => match intsM vk l with
     | true => oneP (.sint vk (assocI l n)) []
     | false => none
    | _, _, _ => none
   | _ => none
  | _, _ => none
 | _, _ => none
def evRO (P : Program) (m : List SB) (sl : Slots) : Op → Option (V × List Prop)
 | .lookup t x ix ok => match cOf (evO sl x), cOf (evO sl ix) with
  | some (.mapr b), some key => evLook P m t b key ok
  | _, _ => none
 | .move x => match evO sl x with | some v => some (v, []) | none => none
 | .assign x => match evO sl x with | some v => some (v, []) | none => none
 | .pick c a b => match evO sl c with
  | some (.v (.one (.bool true))) => match evO sl a with | some v => some (v, []) | none => none
  | some (.v (.one (.bool false))) => match evO sl b with | some v => some (v, []) | none => none
  | _ => none
 | .load t a => match evO sl a with
  | some (.v (.one (.ptr b i st sub))) => match isAggT P t with
   | some true => match P.info? t with
    | some inf => ldA (blkC m b) i st sub inf.size
    | none => none
   | some false => match ldC (blkC m b) i st sub with
    | some (c, ps) => oneP c ps
    | none => none
   | none => none
  | _ => none
 | .nilCheck x => match evO sl x with
  | some (.v (.one (.ptr b i st sub))) => one (.ptr b i st sub)
  | _ => none
 | .fieldAddr s x f => match evO sl x with
  | some (.v (.one (.ptr b i st sub))) => match P.underlying s with
   | some (.struct fs) => match fs[f]? with
    | some fd => match Nat.ble 1 (szT P fd.type) with
     | true => one (.ptr b i st (sub + fd.offset))
     | false => none
    | none => none
   | _ => none
  | _ => none
 | .field s x f => match evO sl x with
  | some (.v (.agg l)) => match P.underlying s with
   | some (.struct fs) => match fs[f]? with
    | some fd => match isAggT P fd.type with
     | some true => match P.info? fd.type with
      | some inf => some (.v (.agg ((l.drop fd.offset).take inf.size)), [])
      | none => none
     | some false => match l[fd.offset]? with
      | some c => one c
      | none => none
     | none => none
    | none => none
   | _ => none
  | _ => none
 | .indexAddr t x ix => match evO sl x, cOf (evO sl ix) with
  | some (.v (.one (.slice b i st len _))), some j => match P.underlying t with
   | some (.slice e) => match (P.info? e).isSome && Nat.beq (szT P e) st && Nat.ble 1 st with
    | true => match ixN j len with
     | some (jn, ps) => oneP (.ptr b (i.add jn) st 0) ps
     | none => none
    | false => none
   | _ => none
  | some (.v (.one (.ptr b (.c k) st sub))), some j => match P.underlying t with
   | some (.array n e) => match (P.info? e).isSome with
    | true => match ixN j (.c n) with
     | some (.c jn, ps) => oneP (.ptr b (.c (k * st + sub + jn * szT P e)) 1 0) ps
     | some (.s jn, ps) => match Nat.beq (k * st + sub) 0 with
      | true => oneP (.ptr b (.s jn) (szT P e) 0) ps
      | false => none
     | none => none
    | false => none
   | _ => none
  | _, _ => none
 | .index t x ix => match evO sl x, cOf (evO sl ix) with
  | some (.v (.agg l)), some j => match P.underlying t with
   | some (.array n e) => match ixN j (.c n), P.info? e, isAggT P e with
    | some (.c jn, ps), some inf, some true => some (.v (.agg ((l.drop (jn * inf.size)).take inf.size)), ps)
    | some (.c jn, ps), some inf, some false => match l[jn * inf.size]? with
     | some c => oneP c ps
     | none => none
    | _, _, _ => none
   | _ => none
  | some (.v (.aggi k l)), some j => match P.underlying t with
   | some (.array n e) => match ixN j (.c n), P.info? e, isAggT P e with
    | some (jn, ps), some inf, some false => match Nat.beq inf.size 1 with
     | true => oneP (.sint k (l.getD jn.v 0)) (ps ++ [jn.v < l.length])
     | false => none
    | _, _, _ => none
   | _ => none
  | some (.v (.one (.str l))), some j => match P.underlying t with
   | some .string => match ixN j (.c l.length) with
    | some (.c jn, ps) => oneP (.int .u8 ((l.getD jn 0).toNat : Int)) ps
    | some (.s jn, ps) => oneP (.sint .u8 ((l.getD jn 0).toNat : Int)) ps
    | none => none
   | _ => none
  | some (.v (.one (.sstr l))), some j => match P.underlying t with
   | some .string => match ixN j (.s l.length) with
    | some (jn, ps) => oneP (.sint .u8 ((l.getD jn.v 0).toNat : Int)) ps
    | none => none
   | _ => none
  | _, _ => none
 | .slice t x lo hi none => match cOf (evO sl x), optC sl lo, optC sl hi with
  | some c, some l, some h => evSlice P m t c l h
  | _, _, _ => none
 | .slice t x (some lo) (some hi) (some mx) => match cOf (evO sl x), cOf (evO sl lo), cOf (evO sl hi), cOf (evO sl mx) with
  | some c, some l, some h, some k => evSlice3 P t c l h k
  | _, _, _, _ => none
 | .binOp op xt x y _ => match evO sl x, evO sl y with
  | some a, some b => evBin P op xt a b
  | _, _ => none
 | .unOp op _ x => match cOf (evO sl x) with
  | some c => evUn op c
  | none => none
 | .convert src dst x => match cOf (evO sl x) with
  | some c => evConv P src dst c
  | none => none
 | .extract t j => match evO sl t with
  | some (.tup l) => match l[j]? with
   | some x => some (.v x, [])
   | none => none
  | _ => none
 | .makeFunc (.func f) first caps => match first.toList, capsOf sl caps.toList with
  | [], some l => one (.clos f l)
  | _, _ => none
 | .build t parts => evBuild P sl t parts.toList
 | .call { callee := .builtin b, args := args, argTypes := tys } => match b, args.toList, tys.toList with
  | .len, [x], t :: _ => match cOf (evO sl x), P.underlying t with
   | some (.slice _ _ _ len _), some (.slice _) => one (lenN len)
   | some .nils, some (.slice _) => one (.int .i64 0)
   | some (.str l), some .string => one (.int .i64 l.length)
   | some (.sstr l), some .string => one (.sint .i64 l.length)
   | _, _ => none
  | .cap, [x], t :: _ => match cOf (evO sl x), P.underlying t with
   | some .nils, some (.slice _) => one (.int .i64 0)
   | _, _ => none
  | .min, [x, y], _ => match cOf (evO sl x), cOf (evO sl y) with
   | some a, some b => match min1 false a b with
    | some (c, ps) => oneP c ps
    | none => none
   | _, _ => none
  | .max, [x, y], _ => match cOf (evO sl x), cOf (evO sl y) with
   | some a, some b => match min1 true a b with
    | some (c, ps) => oneP c ps
    | none => none
   | _, _ => none
  | _, _, _ => none
 | _ => none
abbrev RW := Option V × List SB × List Bool × List Prop
def newB (m : List SB) (_t : TypeId) (c : Cells) : List SB := m ++ [⟨true, c⟩]
def sizeOk (sz : Nat) : V1 → Option (List Prop)
 | .one _ => match Nat.beq sz 1 with | true => some [] | false => none
 | .agg l => match Nat.beq sz l.length with | true => some [] | false => none
 | .aggi _ l => some [l.length = sz]
def repC (z : List C) : Nat → List C
 | 0 => []
 | n + 1 => z ++ repC z n
def seg (m : List SB) (b : Nat) (i : N) (st : Nat) (len : N) (h : List Bool) : Option (Cells × List Bool × List Prop) :=
 match blkC m b, i, len with
 | .exp l, .c a, .c n => match Nat.ble ((a + n) * st) l.length with
  | true => some (.exp ((l.drop (a * st)).take (n * st)), h, [])
  | false => none
 | .ints k l, i, n => match Nat.beq st 1, h with
  | true, true :: h' => some (.ints k l, h', [i.v = 0, n.v = l.length])
  | true, false :: h' => some (.ints k ((l.drop i.v).take n.v), h', [i.v + n.v ≤ l.length])
  | _, _ => none
 | .recs ks l, i, n => match Nat.beq st ks.length, h with
  | true, true :: h' => some (.recs ks l, h', [i.v = 0, n.v = l.length])
  | true, false :: h' => some (.recs ks ((l.drop i.v).take n.v), h', [i.v + n.v ≤ l.length])
  | _, _ => none
 | _, _, _ => none
def rowsOf (ks : List IntKind) : Nat → List C → Option (List (List Int))
 | 0, [] => some []
 | 0, _ :: _ => none
 | n + 1, l => match rowOf ks (l.take ks.length) with
  | some r => match rowsOf ks n (l.drop ks.length) with
   | some rs => some (r :: rs)
   | none => none
  | none => none
def catC : Cells → Cells → Option Cells
 | .exp a, .exp b => some (.exp (a ++ b))
 | .ints k a, .ints k' b => match decide (k = k') with | true => some (.ints k (a ++ b)) | false => none
 | .ints k a, .exp b => match intsOf k b with | some b' => some (.ints k (a ++ b')) | none => none
 | .exp a, .ints k b => match intsOf k a with | some a' => some (.ints k (a' ++ b)) | none => none
 | .recs ks a, .recs ks' b => match decide (ks = ks') with | true => some (.recs ks (a ++ b)) | false => none
 | .recs ks a, .exp b => match rowsOf ks (b.length / ks.length) b with | some b' => some (.recs ks (a ++ b')) | none => none
 | .exp a, .recs ks b => match rowsOf ks (a.length / ks.length) a with | some a' => some (.recs ks (a' ++ b)) | none => none
 | _, _ => none
def segOf (m : List SB) (st : Nat) (h : List Bool) : C → Option (Cells × N × List Bool × List Prop)
 | .nils => some (.exp [], .c 0, h, [])
 | .raw (.slice (some _) 0 _) => some (.exp [], .c 0, h, [])
 | .slice b i st' len _ => match Nat.beq st st' with
  | true => match seg m b i st len h with
   | some (c, h', ps) => some (c, len, h', ps)
   | none => none
  | false => none
 | .str l => match Nat.beq st 1 with
  | true => some (.exp (l.map fun x => .int .u8 x.toNat), .c l.length, h, [])
  | false => none
 | .sstr l => match Nat.beq st 1 with
  | true => some (.ints .u8 (l.map fun x => (x.toNat : Int)), .s l.length, h, [])
  | false => none
 | _ => none
def room (n : N) (bytes : Nat) : Option (List Prop) :=
 match n with
 | .c n => match Nat.ble (n * bytes) 140737488355328 && Nat.ble n 9223372036854775807 with
  | true => some []
  | false => none
 | .s n => some [n * bytes ≤ 140737488355328, n ≤ 9223372036854775807]
def zeroFits (P : Program) (e : TypeId) (sz : Nat) : Bool :=
 match zeroC P e with
 | some z => Nat.beq sz z.length
 | none => false
def evAppend (P : Program) (m : List SB) (t : TypeId) (x y : C) (h : List Bool) : Option RW :=
 match P.underlying t with
 | some (.slice e) => match P.info? e with
  | some inf => match Nat.ble 1 inf.size && zeroFits P e inf.size with
   | true =>
    let st := inf.size
    match x with
    | .nils => match segOf m st h y with
     | some (c, n, h', ps) => match room n inf.bytes with
      | some rs => some (some (.v (.one (.slice m.length (.c 0) st n n))), newB m e c, h', ps ++ rs)
      | none => none
     | none => none
    | .slice b (.c 0) st' n _ => match Nat.beq st st' && ownB m b with
     | true => match seg m b (.c 0) st n h with
      | some (c, h1, ps) => match segOf m st h1 y with
       | some (c', n', h2, qs) => match catC c c', room (n.add n') inf.bytes with
        | some d, some rs => some (some (.v (.one (.slice m.length (.c 0) st (n.add n') (n.add n')))), newB (setBlk m b .dead) e d, h2, ps ++ (qs ++ rs))
        | _, _ => none
       | none => none
      | none => none
     | false => none
    | _ => none
   | false => none
  | none => none
 | _ => none
def strT (P : Program) : Option TypeId := (List.range 400).find? fun t => match P.underlying t with | some .string => true | _ => false
def lenCZ : C → Option N
 | .nils => some (.c 0)
 | .slice _ _ _ n _ => some n
 | _ => none
def evAppendZ (P : Program) (m : List SB) (t t' : TypeId) (x : C) (n : Int) (h : List Bool) : Option RW :=
 match P.underlying t, P.underlying t', strT P, lenCZ x with
 | some (.slice e), some (.int _), some _, some n0 => match P.info? e, zeroC P e with
  | some inf, some [.int .u8 0] => match Nat.beq inf.size 1 && Nat.beq inf.bytes 1 with
   | true => match evAppend P m t x (.sstr (List.replicate n.toNat 0)) h with
    | some (v, m', h', ps) => some (v, m', h', [0 ≤ n, n0.v + n.toNat ≤ 140737488355328] ++ ps)
    | none => none
   | false => none
  | _, _ => none
 | _, _, _, _ => none
def zksOf : List C → Option (List IntKind)
 | [] => some []
 | .int k 0 :: r => match zksOf r with
  | some ks => some (k :: ks)
  | none => none
 | _ => none
def evMake (P : Program) (m : List SB) (t : TypeId) (l c : C) (h : List Bool) : Option RW :=
 match P.underlying t with
 | some (.slice e) => match P.info? e, zeroC P e with
  | some inf, some z => match Nat.ble 1 inf.size && Nat.beq inf.size z.length, l, c with
   | true, .int .i64 n, .int .i64 k => match decide (0 ≤ n) && decide (n ≤ k) && Nat.ble (k.toNat * inf.bytes) 140737488355328 && Nat.ble k.toNat 9223372036854775807 with
    | true => some (some (.v (.one (.slice m.length (.c 0) inf.size (.c n.toNat) (.c k.toNat)))), newB m e (.exp (repC z k.toNat)), h, [])
    | false => none
   | true, .sint .i64 n, .sint .i64 k => match z with
    | [.int ik 0] => some (some (.v (.one (.slice m.length (.c 0) inf.size (.s n.toNat) (.s k.toNat)))), newB m e (.ints ik (List.replicate k.toNat 0)), h,
      [0 ≤ n, n ≤ k, k.toNat * inf.bytes ≤ 140737488355328, k.toNat ≤ 9223372036854775807])
    | _ => match zksOf z with
     | some ks => some (some (.v (.one (.slice m.length (.c 0) inf.size (.s n.toNat) (.s k.toNat)))), newB m e (.recs ks (List.replicate k.toNat (ks.map fun _ => 0))), h,
      [0 ≤ n, n ≤ k, k.toNat * inf.bytes ≤ 140737488355328, k.toNat ≤ 9223372036854775807])
     | none => none
   | true, .int .i64 n, .sint .i64 k => match decide (n = 0) with
    | true => some (some (.v (.one (.slice m.length (.c 0) inf.size (.c 0) (.c 0)))), newB m e (.exp []), h,
      [0 ≤ k, k.toNat * inf.bytes ≤ 140737488355328, k.toNat ≤ 9223372036854775807])
    | false => none
   | _, _, _ => none
  | _, _ => none
 | _ => none
def evCopy (P : Program) (m : List SB) (t : TypeId) (x y : C) (h : List Bool) : Option RW :=
 match P.underlying t with
 | some (.slice e) => match P.info? e, x with
  | some inf, .slice b (.c 0) st n _ => match Nat.beq st 1 && Nat.beq inf.size 1 && ownB m b, segOf m st h y with
   | true, some (c', n', h2, qs) => match blkC m b, c', n, n' with
    | .exp l, .exp l', .c a, .c a' => match Nat.ble a l.length with
     | true => some (some (.v (.one (.int .i64 ((min a' a : Nat) : Int)))), setBlk m b (.exp (l'.take (min a' a) ++ l.drop (min a' a))), h2, qs)
     | false => none
    | .ints k l, .ints k' l', a, a' => match decide (k = k') with
     | true => some (some (.v (.one (.sint .i64 ((min a'.v a.v : Nat) : Int)))), setBlk m b (.ints k (l'.take (min a'.v a.v) ++ l.drop (min a'.v a.v))), h2, qs ++ [a.v ≤ l.length])
     | false => none
    | .exp l, .ints k l', .c a, a' => match intsOf k l with
     | some l0 => some (some (.v (.one (.sint .i64 ((min a'.v a : Nat) : Int)))), setBlk m b (.ints k (l'.take (min a'.v a) ++ l0.drop (min a'.v a))), h2, qs ++ [a ≤ l0.length])
     | none => none
    | _, _, _, _ => none
   | _, _ => none
  | _, _ => none
 | _ => none
def isSl : C → Bool
 | .slice _ _ _ _ _ => true
 | .nils => true
 | _ => false
def evConvW (P : Program) (m : List SB) (src dst : TypeId) (x : C) (h : List Bool) : Option RW :=
 match P.underlying src, P.underlying dst with
 | some (.slice e), some .string => match P.underlying e, isSl x, segOf m 1 h x with
  | some (.int .u8), true, some (.exp l, _, h', ps) => match intsOf .u8 l with
   | some l0 => some (some (.v (.one (.str (l0.map fun n => UInt8.ofNat n.toNat)))), m, h', ps)
   | none => none
  | some (.int .u8), true, some (.ints .u8 l, _, h', ps) => some (some (.v (.one (.sstr (l.map fun n => UInt8.ofNat n.toNat)))), m, h', ps)
  | _, _, _ => none
 | some .string, some (.slice e) => match P.underlying e, x with
  | some (.int .u8), .str l => match Nat.ble l.length 9223372036854775807 with
   | true => some (some (.v (.one (.slice m.length (.c 0) 1 (.c l.length) (.c l.length)))), newB m e (.exp (l.map fun x => .int .u8 x.toNat)), h, [])
   | false => none
  | some (.int .u8), .sstr l => some (some (.v (.one (.slice m.length (.c 0) 1 (.s l.length) (.s l.length)))), newB m e (.ints .u8 (l.map fun x => (x.toNat : Int))), h, [l.length ≤ 9223372036854775807])
  | _, _ => none
 | _, _ => none
def bothSl (P : Program) (src dst : TypeId) : Bool :=
 match P.underlying src, P.underlying dst with
 | some (.slice _), some (.slice _) => true
 | _, _ => false
def lendB (m : List SB) (b : Nat) : List SB :=
 match m[b]? with
 | some s => m.set b { s with own := false }
 | none => m
def evMark (P : Program) (m : List SB) (src dst : TypeId) (x : C) (h : List Bool) : Option RW :=
 match x, P.underlying dst with
 | .slice b i 1 (.c (n + 1)) cl, some (.slice e) => match P.underlying e, ownB m b && Nat.beq src dst with
  | some (.int .u8), true => some (some (.v (.one (.slice b i 1 (.c (n + 1)) cl))), lendB m b, h, [])
  | _, _ => none
 | _, _ => none
def sliceOrStr (P : Program) (t : TypeId) : Bool :=
 match P.underlying t with
 | some (.slice _) => true
 | some .string => true
 | _ => false
def mapKind (P : Program) (t : TypeId) : Option IntKind :=
 match P.underlying t with
 | some (.map kt _) => match P.underlying kt with
  | some (.int k) => some k
  | _ => none
 | _ => none
def resOk (sl : Slots) : Option Operand → Bool
 | none => true
 | some o => match cOf (evO sl o) with
  | some (.int _ _) => true
  | _ => false
def evPutM (P : Program) (m : List SB) (t : TypeId) (b : Nat) (k : IntKind) (n : Int) (y : V1) (h : List Bool) : Option RW :=
 match mapKind P t, m[b]? with
 | some _, some ⟨true, .imap kk l⟩ => match decide (k = kk) with
  | true => some (none, setBlk m b (.imap kk (setM l n y)), h, [])
  | false => none
 | _, _ => none
def evRW (P : Program) (m : List SB) (sl : Slots) (h : List Bool) : Op → Option RW
 | .makeMap t r => match mapKind P t, resOk sl r with
  | some kk, true => some (some (.v (.one (.mapr m.length))), newB m t (.imap kk []), h, [])
  | _, _ => none
 | .mapUpdate t mm k x => match cOf (evO sl mm), cOf (evO sl k), evO sl x with
  | some (.mapr b), some (.int kk n), some (.v y) => evPutM P m t b kk n y h
  | _, _, _ => none
 | .insert t mm k x => match cOf (evO sl mm), cOf (evO sl k), evO sl x with
  | some (.mapr b), some (.int kk n), some (.v y) => evPutM P m t b kk n y h
  | _, _, _ => none
 | .alloc t => match zeroC P t with
  | some z => some (some (.v (.one (.ptr m.length (.c 0) 1 0))), newB m t (.exp z), h, [])
  | none => none
 | .box t x => match evO sl x with
  | some (.v y) => some (some (.v (.one (.ptr m.length (.c 0) 1 0))), newB m t (cellsV y), h, [])
  | _ => none
 | .buildSlice t len parts => match P.underlying t with
  | some (.slice e) => match P.info? e, zeroC P e, evParts sl parts.toList with
   | some inf, some z, some ps => match Nat.ble 1 inf.size && Nat.beq inf.size z.length && Nat.ble (len * inf.size) 16777216 with
    | true => match fillC (fun i => some (i * inf.size, inf.size)) (repC z len) ps with
     | some l => some (some (.v (.one (.slice m.length (.c 0) inf.size (.c len) (.c len)))), newB m e (.exp l), h, [])
     | none => none
    | false => none
   | _, _, _ => none
  | _ => none
 | .store t a x => match evO sl a, evO sl x with
  | some (.v (.one (.ptr b i st sub))), some (.v y) => match P.info? t with
   | some inf => match sizeOk inf.size y, ownB m b, stA (blkC m b) i st sub y with
    | some ps, true, some (c, qs) => some (none, setBlk m b c, h, ps ++ qs)
    | _, _, _ => none
   | none => none
  | _, _ => none
 | .makeSlice t l c => match cOf (evO sl l), cOf (evO sl c) with
  | some x, some y => evMake P m t x y h
  | _, _ => none
 | .convert src dst x => match cOf (evO sl x) with
  | some c => match bothSl P src dst with
   | true => evMark P m src dst c h
   | false => evConvW P m src dst c h
  | none => none
 | .call { callee := .builtin b, args := args, argTypes := tys } => match b, args.toList, tys.toList with
  | .append, [x, y], [t, t'] => match sliceOrStr P t', cOf (evO sl x), cOf (evO sl y) with
   | true, some a, some b => evAppend P m t a b h
   | false, some a, some (.sint _ n) => evAppendZ P m t t' a n h
   | false, some a, some (.int _ n) => evAppendZ P m t t' a n h
   | _, _, _ => none
  | .copy, [x, y], t :: _ => match cOf (evO sl x), cOf (evO sl y) with
   | some a, some b => evCopy P m t a b h
   | _, _ => none
  | _, _, _ => none
 | _ => none
abbrev CallR := V × List SB × List Bool × List Prop
abbrev CallFn := FuncId → List V → List SB → List Bool → Option CallR
structure St where
 sl : Slots
 m : List SB
 h : List Bool
 ob : List Prop
def decideB (S : St) (t : Nat) : Option (Option Bool × St) :=
 match look S.sl t with
 | some (.v (.one (.bool true))) => some (some true, S)
 | some (.v (.one (.bool false))) => some (some false, S)
 | some (.v (.one (.sbool p))) => match S.h with
  | b :: h => some (some b, { S with sl := (t, .v (.one (.bool b))) :: S.sl, h := h, ob := (p = b) :: S.ob })
  | [] => none
 | some (.tup []) => some (none, S)
 | _ => none
def putS (n : Nat) (S : St) (d : Option Tmp) (v : V) : Option St :=
 match d with
 | none => some S
 | some d => match Nat.blt d n with
  | true => some { S with sl := (d, v) :: S.sl }
  | false => none
def undefV : V := .tup []
def noRefC : C → Bool
 | .ptr _ _ _ _ => false
 | .slice _ _ _ _ _ => false
 | .clos _ [] => true
 | .clos _ _ => false
 | .mapr _ => false
 | _ => true
def noRef1 : V1 → Bool
 | .one c => noRefC c
 | .agg l => l.all noRefC
 | .aggi _ _ => true
def noRef : V → Bool
 | .v x => noRef1 x
 | .tup l => l.all noRef1
def frz (m : List SB) : List SB := m.map fun s => { s with own := false }
def doCall (call : CallFn) (eff : FuncId → Bool) (f : FuncId) (args : List V) (m : List SB) (h : List Bool) : Option CallR :=
 match eff f with
 | true => call f args m h
 | false => match call f args (frz m) h with
  | some (v, m', h', ob) => match noRef v with
   | true => some (v, m, h', ob)
   | false => match (m'.drop m.length).all (fun s => s.own) with
    | true => some (v, m ++ m'.drop m.length, h', ob)
    | false => none
  | none => none
def evArgs (sl : Slots) : List Operand → Option (List V)
 | [] => some []
 | o :: r => match evO sl o with
  | some v => match evArgs sl r with
   | some l => some (v :: l)
   | none => none
  | none => none
def capV (caps : List Nat) : List V := caps.map fun b => .v (.one (.ptr b (.c 0) 1 0))
def enterOk (P : Program) (f : FuncId) : Bool :=
 match P.funcs[f]? with
 | some fn => fn.body.isSome && !(fn.name == "runtime.NumGoroutine")
 | none => false
def callee (P : Program) (sl : Slots) : Op → Option (FuncId × List V)
 | .call { callee := .value f, args := args, argTypes := _ } => match evO sl f, evArgs sl args.toList with
  | some (.v (.one (.clos g caps))), some l => match enterOk P g with
   | true => some (g, l ++ capV caps)
   | false => none
  | _, _ => none
 | _ => none
def evROw (P : Program) (eff : FuncId → Bool) (m : List SB) (sl : Slots) (op : Op) : Option (V × List Prop) :=
 match eff 4294967295 with
 | true => match op with
  | .binOp .add _ x y _ => match evO sl x, evO sl y with
   | some (.v (.one (.sint .i64 p))), some (.v (.one (.sint .i64 q))) => one (.sint .i64 (IntKind.wrap .i64 (p + q)))
   | _, _ => evRO P m sl op
  | _ => evRO P m sl op
 | false => evRO P m sl op
def tmpOk (eff : FuncId → Bool) (f : FuncId) : Op → Bool
 | .call { callee := .value (.tmp _), .. } => !(eff 4294967293) || !(eff f)
 | _ => true
def preDecide (S : St) : Op → Option St
 | .pick (.tmp t) _ _ => match decideB S t with
  | some (_, S') => some S'
  | none => none
 | _ => some S
def doOp (P : Program) (call : CallFn) (eff : FuncId → Bool) (n : Nat) (o : Oper) (S0 : St) : Option St :=
 match preDecide S0 o.op with
 | none => none
 | some S => match evROw P eff S.m S.sl o.op with
  | some (v, ps) => putS n { S with ob := ps ++ S.ob } o.dst v
  | none => match evRW P S.m S.sl S.h o.op with
   | some (some v, m, h, ps) => putS n { S with m := m, h := h, ob := ps ++ S.ob } o.dst v
   | some (none, m, h, ps) => putS n { S with m := m, h := h, ob := ps ++ S.ob } o.dst undefV
   | none => match callee P S.sl o.op with
    | some (f, args) => match tmpOk eff f o.op, doCall call eff f args S.m S.h with
     | true, some (v, m, h, ps) => putS n { S with m := m, h := h, ob := ps ++ S.ob } o.dst v
     | _, _ => none
    | none => none
def guardOf (all : Array Oper) (S : St) (o : Oper) : Option (Bool × St) :=
 match o.guard with
 | none => some (true, S)
 | some (j, want) => match (all[j]?).bind (·.dst) with
  | some d => match decideB S d with
   | some (some b, S') => some (b == want, S')
   | some (none, S') => some (false, S')
   | none => none
  | none => none
def doOper (P : Program) (call : CallFn) (eff : FuncId → Bool) (n : Nat) (all : Array Oper) (o : Oper) (S : St) : Option St :=
 match guardOf all S o with
 | some (true, S') => doOp P call eff n o S'
 | some (false, S') => putS n S' o.dst undefV
 | none => none
def doList (P : Program) (call : CallFn) (eff : FuncId → Bool) (n : Nat) (all : Array Oper) : List Oper → St → Option St
 | [], S => some S
 | o :: r, S => match doOper P call eff n all o S with
  | some S' => doList P call eff n all r S'
  | none => none
inductive Kd where | pu | ld | fr | no
def kindOf (P : Program) (eff : FuncId → Bool) : Op → Kd
 | .move _ | .assign _ | .pick .. | .field .. | .fieldAddr .. | .index .. | .indexAddr .. | .slice .. | .binOp .. | .unOp .. | .extract .. | .makeFunc .. | .build .. | .nilCheck _ => .pu
 | .convert src dst _ => match P.underlying src, P.underlying dst with
  | some (.slice _), some (.slice _) => .no
  | some (.slice _), _ => .ld
  | _, some (.slice _) => .fr
  | _, _ => .pu
 | .load .. => .ld
 | .lookup .. => .ld
 | .makeMap .. => .fr
 | .alloc _ | .box .. | .buildSlice .. | .makeSlice .. => .fr
 | .call { callee := .builtin b, .. } => match b with
  | .len | .cap | .min | .max => .pu
  | _ => .no
 | .call { callee := .value (.func f), .. } => match eff f with | true => .no | false => .fr
 | .call { callee := .value (.tmp _), .. } => match eff 4294967293 with | true => .fr | false => .no
 | _ => .no
def Kd.early : Kd → Bool
 | .pu => true
 | .ld => true
 | _ => false
def laterN (ops : Array Oper) (i : Nat) : Nat → List Nat → List Nat
 | 0, z => z
 | n + 1, z => laterN ops i n ((List.range ops.size).filter fun j => match ops[j]? with
   | some oj => oj.after.any fun e => Region.binds .any e && (Nat.beq e.on i || z.any (Nat.beq e.on))
   | none => false)
def waitsB (P : Program) (eff : FuncId → Bool) (ops : Array Oper) (listed : Array Bool) (i : Nat) (z : List Nat) : Bool :=
 (z.all fun j => !listed.getD j true && (match ops[j]? with
  | some oj => oj.after.any fun e => Region.binds .any e && (Nat.beq e.on i || z.any (Nat.beq e.on))
  | none => false)) &&
 (List.range ops.size).all fun j => Nat.beq j i || listed.getD j true || z.any (Nat.beq j) || (match ops[j]? with
  | some oj => (match kindOf P eff oj.op with | .no => false | _ => true)
  | none => true)
def early (P : Program) (eff : FuncId → Bool) (ops : Array Oper) (listed : Array Bool) (i : Nat) : Bool :=
 match ops[i]? with
 | none => false
 | some o => match kindOf P eff o.op with
  | .pu => Region.free .any ops listed i
  | .ld => Region.free .any ops listed i && (waitsB P eff ops listed i (laterN ops i 1 []) || waitsB P eff ops listed i (laterN ops i 8 []))
  | _ => false
def orderOf (P : Program) (eff : FuncId → Bool) (ops : Array Oper) : Nat → Array Bool → Option (List Nat)
 | 0, _ => none
 | n + 1, listed => match Region.ready .any ops listed with
  | [] => some []
  | i :: rs => match (i :: rs).find? (early P eff ops listed) with
   | some j => match orderOf P eff ops n (listed.setIfInBounds j true) with
    | some l => some (j :: l)
    | none => none
   | none => match rs with
    | [] => match orderOf P eff ops n (listed.setIfInBounds i true) with
     | some l => some (i :: l)
     | none => none
    | _ :: _ => none
def opsAt (ops : Array Oper) : List Nat → List Oper
 | [] => []
 | i :: r => match ops[i]? with
  | some o => o :: opsAt ops r
  | none => opsAt ops r
inductive Out where
 | done (v : V) (m : List SB) (h : List Bool) (ob : List Prop)
 | stop (k : List Item) (S : St)
 | bad
def resOne (P : Program) (S : St) : ResultVar → Option (V × List Prop)
 | .tmp t => match look S.sl t with
  | some v => some (v, [])
  | none => none
 | .cell a t => match look S.sl a with
  | some (.v (.one (.ptr b i st sub))) => match isAggT P t with
   | some true => match P.info? t with
    | some inf => ldA (blkC S.m b) i st sub inf.size
    | none => none
   | some false => match ldC (blkC S.m b) i st sub with
    | some (c, ps) => oneP c ps
    | none => none
   | none => none
  | _ => none
def resAll (P : Program) (S : St) : List ResultVar → Option (List V1 × List Prop)
 | [] => some ([], [])
 | r :: rs => match resOne P S r with
  | some (.v x, ps) => match resAll P S rs with
   | some (l, qs) => some (x :: l, ps ++ qs)
   | none => none
  | _ => none
def finish (P : Program) (fn : Func) (S : St) : Out :=
 match fn.results.toList with
 | [r] => match resOne P S r with
  | some (v, ps) => .done v S.m S.h (ps ++ S.ob)
  | none => .bad
 | rs => match resAll P S rs with
  | some (l, ps) => .done (.tup l) S.m S.h (ps ++ S.ob)
  | none => .bad
def condB (S : St) : Operand → Option (Bool × St)
 | .tmp t => match decideB S t with
  | some (some b, S') => some (b, S')
  | _ => none
 | .const (.bool b) => some (b, S)
 | _ => none
def andP : Option (List Prop) → Option (List Prop) → Option (List Prop)
 | some a, some b => some (a ++ b)
 | _, _ => none
def isB (b : Bool) : Option (List Prop) := match b with | true => some [] | false => none
def sameN : N → N → Option (List Prop)
 | .c a, .c b => isB (Nat.beq a b)
 | .s a, .s b => some [a = b]
 | _, _ => none
def sameC : C → C → Option (List Prop)
 | .int k n, .int k' n' => isB (decide (k = k') && decide (n = n'))
 | .sint k n, .sint k' n' => andP (isB (decide (k = k'))) (some [n = n'])
 | .bool b, .bool b' => isB (b == b')
 | .sbool b, .sbool b' => some [b = b']
 | .str l, .str l' => isB (decide (l = l'))
 | .sstr l, .sstr l' => some [l = l']
 | .nilp, .nilp => some []
 | .ptr b i st sub, .ptr b' i' st' sub' => andP (isB (Nat.beq b b' && Nat.beq st st' && Nat.beq sub sub')) (sameN i i')
 | .nils, .nils => some []
 | .slice b i st len cl, .slice b' i' st' len' cl' => andP (isB (Nat.beq b b' && Nat.beq st st')) (andP (sameN i i') (andP (sameN len len') (sameN cl cl')))
 | .clos f l, .clos f' l' => isB (Nat.beq f f' && decide (l = l'))
 | .mapr b, .mapr b' => isB (Nat.beq b b')
 | _, _ => none
def sameL {α : Type} (f : α → α → Option (List Prop)) : List α → List α → Option (List Prop)
 | [], [] => some []
 | x :: r, y :: s => andP (f x y) (sameL f r s)
 | _, _ => none
def sameV1 : V1 → V1 → Option (List Prop)
 | .one x, .one y => sameC x y
 | .agg l, .agg l' => sameL sameC l l'
 | .aggi k l, .aggi k' l' => andP (isB (decide (k = k'))) (some [l = l'])
 | _, _ => none
def sameV : V → V → Option (List Prop)
 | .v x, .v y => sameV1 x y
 | .tup l, .tup l' => sameL sameV1 l l'
 | _, _ => none
def sameSB (x y : SB) : Option (List Prop) := andP (isB (x.own == y.own)) (match x.c, y.c with
 | .exp l, .exp l' => sameL sameC l l'
 | .ints k l, .ints k' l' => andP (isB (decide (k = k'))) (some [l = l'])
 | .recs k l, .recs k' l' => andP (isB (decide (k = k'))) (some [l = l'])
 | .dead, .dead => some []
 | _, _ => none)
def sameSl (A B : Slots) : List Nat → Option (List Prop)
 | [] => some []
 | t :: r => andP (match look A t, look B t with
  | some v, some u => sameV v u
  | _, _ => none) (sameSl A B r)
def sameSt (A B : St) : Option (List Prop) := andP (sameL sameSB A.m B.m) (sameSl A.sl B.sl (A.sl.map (·.1)))
def isSel (sel : List Nat) (b b' : Nat) : Bool := match sel[b]? with
 | some x => Nat.beq x b'
 | none => false
def leN : N → N → Option (List Prop)
 | .c a, .c b => isB (Nat.ble a b)
 | .s a, .s b => some [a ≤ b]
 | .c a, .s b => some [a ≤ b]
 | .s a, .c b => some [a ≤ b]
def permC (sel : List Nat) : C → C → Option (List Prop)
 | .ptr b i st sub, .ptr b' i' st' sub' => andP (isB (isSel sel b b' && Nat.beq st st' && Nat.beq sub sub')) (sameN i i')
 | .slice b i st len cl, .slice b' i' st' len' cl' => andP (isB (isSel sel b b' && Nat.beq st st')) (andP (sameN i i') (andP (sameN len len') (andP (sameN cl cl') (leN len cl))))
 | .mapr b, .mapr b' => isB (isSel sel b b')
 | .raw _, _ => none
 | .clos f l, .clos f' l' => isB (Nat.beq f f' && decide (l.map (fun b => sel[b]?) = l'.map some))
 | x, y => sameC x y
def permV1 (sel : List Nat) : V1 → V1 → Option (List Prop)
 | .one x, .one y => permC sel x y
 | .agg l, .agg l' => sameL (permC sel) l l'
 | .aggi k l, .aggi k' l' => andP (isB (decide (k = k'))) (some [l = l'])
 | _, _ => none
def permV (sel : List Nat) : V → V → Option (List Prop)
 | .v x, .v y => permV1 sel x y
 | .tup l, .tup l' => sameL (permV1 sel) l l'
 | _, _ => none
def permSB (sel : List Nat) (x y : SB) : Option (List Prop) := andP (isB (!x.own || y.own)) (match x.c, y.c with
 | .exp l, .exp l' => sameL (permC sel) l l'
 | .ints k l, .ints k' l' => andP (isB (decide (k = k'))) (some [l = l'])
 | .recs k l, .recs k' l' => andP (isB (decide (k = k'))) (some [l = l'])
 | .dead, _ => some []
 | _, _ => none)
def permSl (sel : List Nat) (A B : Slots) : List Nat → Option (List Prop)
 | [] => some []
 | t :: r => andP (match look A t, look B t with
  | some v, some u => permV sel v u
  | _, _ => none) (permSl sel A B r)
def permM (sel : List Nat) (m : List SB) : List Nat → List SB → Option (List Prop)
 | [], [] => some []
 | b :: bs, s :: r => andP (match m[b]? with
  | some s' => permSB sel s s'
  | none => none) (permM sel m bs r)
 | _, _ => none
def permSt (n : Nat) (r : List Nat) (A B : St) : Option (List Prop) :=
 andP (isB (decide (List.range n ++ r).Nodup)) (andP (permM (List.range n ++ r) B.m (List.range n ++ r) A.m) (permSl (List.range n ++ r) A.sl B.sl (A.sl.map (·.1))))
def swapped (n j k l : Nat) : List Nat := (List.range (l - n)).map fun p => match Nat.blt p j with
 | true => n + p + k
 | false => match Nat.blt p (j + k) with
  | true => n + p - j
  | false => n + p
def eitherSt (S S1 S2 A B : St) : Option (List Prop) := match sameSt A B with
 | some ps => some ps
 | none => permSt S.m.length (swapped S.m.length (S1.m.length - S.m.length) (S2.m.length - S.m.length) A.m.length) A B
def pairLd (P : Program) (call : CallFn) (eff : FuncId → Bool) (nt : Nat) (ops : Array Oper) (listed : Array Bool) (i j : Nat) (S : St) : Option St :=
 match ops[i]?, ops[j]? with
 | some oi, some oj => match kindOf P eff oi.op, oi.guard, oi.dst with
  | .ld, none, some d => match Nat.blt d nt && !Nat.beq i j && !(oi.looksAt ops).contains d && oi.apart ops oj && decide (Region.ready .any ops (listed.setIfInBounds i true) = [j]) && early P eff ops (listed.setIfInBounds j true) i with
   | true => match doOper P call eff nt ops oi S with
    | some S1 => match doOper P call eff nt ops oj S1 with
     | some A => match evROw P eff A.m A.sl oi.op, look A.sl d with
      | some (v2, ps), some v => match sameV v v2 with
       | some qs => some { A with ob := qs ++ (ps ++ A.ob) }
       | none => none
      | _, _ => none
     | none => none
    | none => none
   | false => none
  | _, _, _ => none
 | _, _ => none
def pairAny (P : Program) (call : CallFn) (eff : FuncId → Bool) (nt : Nat) (ops : Array Oper) (listed : Array Bool) (i j : Nat) (S : St) : Option St :=
 match pairLd P call eff nt ops listed i j S with
 | some A => some A
 | none => pairLd P call eff nt ops listed j i S
def doTree (P : Program) (call : CallFn) (eff : FuncId → Bool) (nt : Nat) (ops : Array Oper) : Nat → Array Bool → St → Option St
 | 0, _, _ => none
 | n + 1, listed, S => match Region.ready .any ops listed with
  | [] => some S
  | i :: rs => match (i :: rs).find? (early P eff ops listed) with
   | some j => match doList P call eff nt ops (opsAt ops [j]) S with
    | some S1 => doTree P call eff nt ops n (listed.setIfInBounds j true) S1
    | none => none
   | none => match rs with
    | [] => match doList P call eff nt ops (opsAt ops [i]) S with
     | some S1 => doTree P call eff nt ops n (listed.setIfInBounds i true) S1
     | none => none
    | [j] => match pairAny P call eff nt ops listed i j S with
     | some A => match n with
      | m + 1 => doTree P call eff nt ops m ((listed.setIfInBounds i true).setIfInBounds j true) A
      | 0 => none
     | none => match doList P call eff nt ops (opsAt ops [i]) S, doList P call eff nt ops (opsAt ops [j]) S with
      | some S1, some S2 => match doTree P call eff nt ops n (listed.setIfInBounds i true) S1, doTree P call eff nt ops n (listed.setIfInBounds j true) S2 with
       | some A, some B => match eitherSt S S1 S2 A B with
        | some ps => some { A with ob := ps ++ (A.ob ++ B.ob) }
        | none => none
       | _, _ => none
      | _, _ => none
    | [j, k] => match doList P call eff nt ops (opsAt ops [i]) S, doList P call eff nt ops (opsAt ops [j]) S, doList P call eff nt ops (opsAt ops [k]) S with
     | some S1, some S2, some S3 => match doTree P call eff nt ops n (listed.setIfInBounds i true) S1, doTree P call eff nt ops n (listed.setIfInBounds j true) S2, doTree P call eff nt ops n (listed.setIfInBounds k true) S3 with
      | some A, some B, some C => match sameSt A B, sameSt A C with
       | some ps, some qs => some { A with ob := ps ++ (qs ++ (A.ob ++ (B.ob ++ C.ob))) }
       | _, _ => none
      | _, _, _ => none
     | _, _, _ => none
    | [j, k, l] => match doList P call eff nt ops (opsAt ops [i]) { S with ob := [] }, doList P call eff nt ops (opsAt ops [j]) { S with ob := [] }, doList P call eff nt ops (opsAt ops [k]) { S with ob := [] }, doList P call eff nt ops (opsAt ops [l]) { S with ob := [] } with
     | some S1, some S2, some S3, some S4 => match doTree P call eff nt ops n (listed.setIfInBounds i true) S1, doTree P call eff nt ops n (listed.setIfInBounds j true) S2, doTree P call eff nt ops n (listed.setIfInBounds k true) S3, doTree P call eff nt ops n (listed.setIfInBounds l true) S4 with
      | some A, some B, some C, some D => match sameSt A B, sameSt A C, sameSt A D with
       | some ps, some qs, some rs => some { A with ob := ps ++ (qs ++ (rs ++ (A.ob ++ (B.ob ++ (C.ob ++ (D.ob ++ S.ob)))))) }
       | _, _, _ => none
      | _, _, _, _ => none
     | _, _, _, _ => none
    | _ => none
def doOpen (P : Program) (call : CallFn) (eff : FuncId → Bool) (nt : Nat) (ops : Array Oper) (S : St) : Option St :=
 match orderOf P eff ops (ops.size + 1) (Array.replicate ops.size false) with
 | some l => doList P call eff nt ops (opsAt ops l) S
 | none => doTree P call eff nt ops (ops.size + 1) (Array.replicate ops.size false) S
def run (P : Program) (call : CallFn) (eff : FuncId → Bool) (fn : Func) (lim : Nat) : Nat → List Bool → List Item → St → Out
 | 0, _, k, S => .stop k S
 | _ + 1, _, [], S => finish P fn S
 | n + 1, ls, .inBlock _ :: k, S => run P call eff fn lim n ls k S
 | n + 1, ls, .inLoop c :: k, S => match Nat.beq (k.length + 1) lim with
  | true => .stop (.inLoop c :: k) S
  | false => run P call eff fn lim n ls (.code c :: .inLoop c :: k) S
 | n + 1, ls, .code c :: k, S => match c with
  | .skip => run P call eff fn lim n ls k S
  | .seq x y => run P call eff fn lim n ls (.code x :: .code y :: k) S
  | .block id x => run P call eff fn lim n ls (.code x :: .inBlock id :: k) S
  | .loop x => match ls with
   | false :: _ => .stop (.code (.loop x) :: k) S
   | true :: ls' => run P call eff fn lim n ls' (.code x :: .inLoop x :: k) S
   | [] => run P call eff fn lim n [] (.code x :: .inLoop x :: k) S
  | .cond b x y => match condB S b with
   | some (true, S') => run P call eff fn lim n ls (.code x :: k) S'
   | some (false, S') => run P call eff fn lim n ls (.code y :: k) S'
   | none => .bad
  | .exit id => match exitTo id k with
   | some k' => run P call eff fn lim n ls k' S
   | none => .bad
  | .ret => finish P fn S
  | .region _ ops false => match doList P call eff fn.ntmps ops ops.toList S with
   | some S' => run P call eff fn lim n ls k S'
   | none => .bad
  | .region _ ops true => match Region.noSelect ops && P.follows .mixedOrders, doOpen P call eff fn.ntmps ops S with
   | true, some S' => run P call eff fn lim n ls k S'
   | _, _ => .bad
  | .rangeFunc g ps as bd => .stop (.code (.rangeFunc g ps as bd) :: k) S
  | _ => .bad
 | _ + 1, _, _, _ => .bad
def argSlots : Nat → List V → Slots
 | _, [] => []
 | i, v :: r => (i, v) :: argSlots (i + 1) r
def callN (P : Program) (T : FuncId → Option (List V → List SB → List Bool → Option CallR)) (eff : FuncId → Bool) (fuel : Nat) : Nat → CallFn
 | 0 => fun _ _ _ _ => none
 | d + 1 => fun f args m h => match T f with
  | some g => g args m h
  | none => match P.funcs[f]? with
   | some fn => match fn.body, Nat.ble args.length fn.ntmps with
    | some c, true => match run P (callN P T eff fuel d) eff fn 0 fuel [] [.code c] ⟨argSlots 0 args, m, h, []⟩ with
     | .done v m' h' ob => some (v, m', h', ob)
     | _ => none
    | _, _ => none
   | none => none
theorem cf3 {A B C r : Type} {p q : A → B → C → r} (z : p = q) (a : A) (b : B) (c : C) : p a b c = q a b c := by rw [z]
theorem cf4 {A B C D r : Type} {p q : A → B → C → D → r} (z : p = q) (a : A) (b : B) (c : C) (d : D) : p a b c d = q a b c d := by rw [z]
theorem cf5 {A B C D E r : Type} {p q : A → B → C → D → E → r} (z : p = q) (a : A) (b : B) (c : C) (d : D) (e : E) : p a b c d e = q a b c d e := by rw [z]
theorem cf6 {A B C D E G r : Type} {p q : A → B → C → D → E → G → r} (z : p = q) (a : A) (b : B) (c : C) (d : D) (e : E) (g : G) : p a b c d e g = q a b c d e g := by rw [z]
theorem cf7 {A B C D E G H r : Type} {p q : A → B → C → D → E → G → H → r} (z : p = q) (a : A) (b : B) (c : C) (d : D) (e : E) (g : G) (h : H) : p a b c d e g h = q a b c d e g h := by rw [z]
theorem cf8 {A B C D E G H I r : Type} {p q : A → B → C → D → E → G → H → I → r} (z : p = q) (a : A) (b : B) (c : C) (d : D) (e : E) (g : G) (h : H) (i : I) : p a b c d e g h i = q a b c d e g h i := by rw [z]
theorem cf9 {A B C D E G H I J r : Type} {p q : A → B → C → D → E → G → H → I → J → r} (z : p = q) (a : A) (b : B) (c : C) (d : D) (e : E) (g : G) (h : H) (i : I) (j : J) : p a b c d e g h i j = q a b c d e g h i j := by rw [z]
theorem cf10 {A B C D E G H I J K r : Type} {p q : A → B → C → D → E → G → H → I → J → K → r} (z : p = q) (a : A) (b : B) (c : C) (d : D) (e : E) (g : G) (h : H) (i : I) (j : J) (k : K) : p a b c d e g h i j k = q a b c d e g h i j k := by rw [z]
theorem cf11 {A B C D E G H I J K L r : Type} {p q : A → B → C → D → E → G → H → I → J → K → L → r} (z : p = q) (a : A) (b : B) (c : C) (d : D) (e : E) (g : G) (h : H) (i : I) (j : J) (k : K) (l : L) : p a b c d e g h i j k l = q a b c d e g h i j k l := by rw [z]
theorem cf12 {A B C D E G H I J K L M r : Type} {p q : A → B → C → D → E → G → H → I → J → K → L → M → r} (z : p = q) (a : A) (b : B) (c : C) (d : D) (e : E) (g : G) (h : H) (i : I) (j : J) (k : K) (l : L) (m : M) : p a b c d e g h i j k l m = q a b c d e g h i j k l m := by rw [z]
end Go.Sx
