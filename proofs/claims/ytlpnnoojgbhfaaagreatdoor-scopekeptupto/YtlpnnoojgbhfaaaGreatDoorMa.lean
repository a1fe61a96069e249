/- THE ABSTRACT MACHINE: values, memory, operations, and how they are carried out. -/
import Derived.RangeFuncLeaves
import Derived.RecoverIn
import Derived.Laws.World
import Derived.Laws.Sem
import Derived.RangeFuncRecord
import Derived.IntWalk
import Derived.Laws.StructEq
import Derived.ChangeKeysEq
set_option linter.all false
namespace Go.AM

inductive AV where
  | bot
  | bool (b : Bool)
  | int (k : IntKind) (n : Int)
  | str (s : List UInt8)
  | nilptr
  | ptr (b o : Nat)
  | pptr (cs : List AV) (o : Nat)
  | nilslice
  | slice (b o n : Nat) (cap : Option Nat) (e : Nat)
  | pslice (cs : List AV) (o n : Nat) (cap : Option Nat)
  | eslice
  | nilmap
  | map (b : Nat)
  | func (f : Nat) (first captured : List AV)
  | yield (l : Nat)
  | nilfunc
  | iface (t : Nat) (v : AV)
  | niliface
  | agg (cs : List AV)
  | tuple (cs : List AV)
  deriving Inhabited

def undefA : AV := .tuple []

/-! Temporaries: a tree, the first at its root, the odd ones to the left -/
inductive Tm where
  | nil
  | node (v : AV) (l r : Tm)
  deriving Inhabited

def getT : Tm → Nat → AV
  | .nil, _ => undefA
  | .node v _ _, 0 => v
  | .node _ l r, j + 1 => bif Nat.beq (Nat.mod j 2) 0 then getT l (Nat.div j 2) else getT r (Nat.div j 2)

def setN : Nat → Tm → Nat → AV → Tm
  | 0, t, _, _ => t
  | _ + 1, .nil, 0, v => .node v .nil .nil
  | n + 1, .nil, j + 1, v => bif Nat.beq (Nat.mod j 2) 0 then .node undefA (setN n .nil (Nat.div j 2) v) .nil else .node undefA .nil (setN n .nil (Nat.div j 2) v)
  | _ + 1, .node _ l r, 0, v => .node v l r
  | n + 1, .node x l r, j + 1, v => bif Nat.beq (Nat.mod j 2) 0 then .node x (setN n l (Nat.div j 2) v) r else .node x l (setN n r (Nat.div j 2) v)

def setT (t : Tm) (i : Nat) (v : AV) : Tm := setN (i + 1) t i v

theorem getT_nil (i : Nat) : getT .nil i = undefA := by cases i <;> rfl

theorem mod2 (j : Nat) : Nat.beq (Nat.mod j 2) 0 = decide (j % 2 = 0) := by
  have e2 : Nat.mod j 2 = j % 2 := rfl
  rw [e2, Bool.eq_iff_iff, Nat.beq_eq]; simp

theorem getT_succ (x : AV) (l r : Tm) (j : Nat) : getT (.node x l r) (j + 1) = if j % 2 = 0 then getT l (j / 2) else getT r (j / 2) := by
  show (bif Nat.beq (Nat.mod j 2) 0 then getT l (j / 2) else getT r (j / 2)) = _
  rw [mod2]
  by_cases h : j % 2 = 0 <;> simp [h]

theorem getT_setN : ∀ (n : Nat) (t : Tm) (i j : Nat) (v : AV), i < n → getT (setN n t i v) j = if i = j then v else getT t j
  | 0, _, _, _, _, h => by omega
  | n + 1, .nil, 0, j, v, h => by
    show getT (.node v .nil .nil) j = _
    cases j with
    | zero => rfl
    | succ j => simp [getT_succ, getT_nil]
  | n + 1, .node x l r, 0, j, v, h => by
    show getT (.node v l r) j = _
    cases j with
    | zero => rfl
    | succ j => rw [getT_succ, getT_succ, if_neg (c := 0 = j + 1) (by omega)]
  | n + 1, .nil, k + 1, j, v, h => by
    have ih := getT_setN n
    show getT (bif Nat.beq (Nat.mod k 2) 0 then .node undefA (setN n .nil (k / 2) v) .nil else .node undefA .nil (setN n .nil (k / 2) v)) j = _
    rw [mod2]
    by_cases hk : k % 2 = 0
    · simp only [hk, decide_true, cond_true]
      cases j with
      | zero => rw [if_neg (by omega), getT_nil]; rfl
      | succ j =>
        rw [getT_succ, getT_nil, getT_nil, ih _ _ _ _ (by omega), getT_nil]
        by_cases hj : j % 2 = 0
        · rw [if_pos hj]
          have : (k / 2 = j / 2) ↔ (k + 1 = j + 1) := by omega
          simp only [this]
        · rw [if_neg hj, if_neg (by omega)]
    · simp only [hk, decide_false, cond_false]
      cases j with
      | zero => rw [if_neg (by omega), getT_nil]; rfl
      | succ j =>
        rw [getT_succ, getT_nil, getT_nil, ih _ _ _ _ (by omega), getT_nil]
        by_cases hj : j % 2 = 0
        · rw [if_pos hj, if_neg (by omega)]
        · rw [if_neg hj]
          have : (k / 2 = j / 2) ↔ (k + 1 = j + 1) := by omega
          simp only [this]
  | n + 1, .node x l r, k + 1, j, v, h => by
    have ih := getT_setN n
    show getT (bif Nat.beq (Nat.mod k 2) 0 then .node x (setN n l (k / 2) v) r else .node x l (setN n r (k / 2) v)) j = _
    rw [mod2]
    by_cases hk : k % 2 = 0
    · simp only [hk, decide_true, cond_true]
      cases j with
      | zero => rw [if_neg (by omega)]; rfl
      | succ j =>
        rw [getT_succ, getT_succ, ih _ _ _ _ (by omega)]
        by_cases hj : j % 2 = 0
        · rw [if_pos hj, if_pos hj]
          have : (k / 2 = j / 2) ↔ (k + 1 = j + 1) := by omega
          simp only [this]
        · rw [if_neg hj, if_neg hj, if_neg (by omega)]
    · simp only [hk, decide_false, cond_false]
      cases j with
      | zero => rw [if_neg (by omega)]; rfl
      | succ j =>
        rw [getT_succ, getT_succ, ih _ _ _ _ (by omega)]
        by_cases hj : j % 2 = 0
        · rw [if_pos hj, if_pos hj, if_neg (by omega)]
        · rw [if_neg hj, if_neg hj]
          have : (k / 2 = j / 2) ↔ (k + 1 = j + 1) := by omega
          simp only [this]

theorem getT_setT (t : Tm) (i j : Nat) (v : AV) : getT (setT t i v) j = if i = j then v else getT t j := getT_setN (i + 1) t i j v (Nat.lt_succ_self i)

/-- the arguments -/
def ofL : List AV → Nat → Tm → Tm
  | [], _, t => t
  | v :: l, i, t => ofL l (i + 1) (setT t i v)

theorem getT_ofL : ∀ (l : List AV) (i : Nat) (t : Tm) (j : Nat), getT (ofL l i t) j = if i ≤ j ∧ j < i + l.length then (l[j - i]?).getD undefA else getT t j
  | [], i, t, j => by simp only [ofL, List.length_nil, Nat.add_zero]; rw [if_neg (by omega)]
  | v :: l, i, t, j => by
    simp only [ofL, getT_ofL l (i + 1), getT_setT, List.length_cons]
    by_cases h1 : i + 1 ≤ j ∧ j < i + 1 + l.length
    · rw [if_pos h1, if_pos (by omega)]
      have : j - i = (j - (i + 1)) + 1 := by omega
      rw [this]; simp
    · rw [if_neg h1]
      by_cases h2 : i = j
      · subst h2; rw [if_pos rfl, if_pos (by omega)]; simp
      · rw [if_neg h2, if_neg (by omega)]

def argsT (l : List AV) : Tm := ofL l 0 .nil

theorem getT_args (l : List AV) (j : Nat) : getT (argsT l) j = (l[j]?).getD undefA := by
  unfold argsT
  rw [getT_ofL]
  by_cases h : 0 ≤ j ∧ j < 0 + l.length
  · rw [if_pos h]; simp
  · rw [if_neg h, getT_nil]
    have : l[j]? = none := by simp; omega
    rw [this]; rfl

inductive Opd where
  | t (i : Nat)
  | k (v : AV)
  deriving Inhabited

def Opd.ev (t : Tm) : Opd → AV
  | .t i => getT t i
  | .k v => v

/-- kinds of plain values -/
inductive PK where
  | int | str | bool
  deriving Inhabited, DecidableEq

/-- how two values are compared -/
inductive EqK where
  | num
  | bool
  | ptr
  | iface (lit : Bool) (oks : List (Nat × PK))
  | slice
  | func
  | flat (ks : List PK)
  deriving Inhabited

inductive KeyK where
  | prim (p : PK)
  | flat (ks : List PK)
  deriving Inhabited, DecidableEq

inductive ConvK where
  | i2i (k : IntKind)
  | s2s
  | s2b (ty : Nat)
  | upc (ty n : Nat)
  | b2s
  | i2s
  deriving Inhabited

inductive AppK where
  | slice
  | string
  | zeros
  deriving Inhabited, DecidableEq

inductive AOp where
  | move (x : Opd)
  | pick (c a b : Opd)
  | alloc (ty : Nat) (zs : List AV)
  | box (ty : Nat) (x : Opd)
  | build (zs : List AV) (parts : List (Nat × Nat × Opd))
  | buildSlice (ty : Nat) (zs : List AV) (e len : Nat) (parts : List (Nat × Opd))
  | load (agg : Bool) (n : Nat) (x : Opd)
  | store (n : Nat) (a x : Opd)
  | nilCheck (x : Opd)
  | bin (op : BinOp) (q : EqK) (x y : Opd)
  | un (op : UnOp) (x : Opd)
  | conv (c : ConvK) (x : Opd)
  | mkIface (t : Nat) (x : Opd)
  | mkFunc (f : Nat) (first captured : List Opd)
  | makeMap (k : KeyK) (x : Option Opd)
  | makeSlice (ty e bytes : Nat) (zs : List AV) (l c : Opd)
  | sliceStr (x : Opd) (lo hi : Option Opd)
  | sliceSl (e : Nat) (x : Opd) (lo hi mx : Option Opd)
  | sliceArr (len e : Nat) (x : Opd) (lo hi : Option Opd)
  | fieldAddr (off : Nat) (x : Opd)
  | field (agg : Bool) (off n : Nat) (x : Opd)
  | idxAddrS (e : Nat) (x i : Opd)
  | idxAddrA (len e : Nat) (x i : Opd)
  | idxStr (x i : Opd)
  | idxArr (agg : Bool) (len n : Nat) (x i : Opd)
  | lookup (kk : KeyK) (zero : AV) (ok : Bool) (x i : Opd)
  | mapUpdate (kk : KeyK) (m k v : Opd)
  | assertT (t : Nat) (zero : AV) (ok : Bool) (x : Opd)
  | extract (x : Opd) (i : Nat)
  | len (k : Bool) (x : Opd)
  | lenMap (x : Opd)
  | cap (x : Opd)
  | append (k : AppK) (ty e bytes : Nat) (zero : List AV) (s x : Opd)
  | copy (e : Nat) (d s : Opd)
  | minmax (isMax : Bool) (x : Opd) (l : List Opd)
  | sliceData (x : Opd)
  | unsafeString (ty : Nat) (x n : Opd)
  | rangeStr (x : Opd)
  | nextStr (x : Opd)
  | callv (f : Opd) (args : List Opd)
  | deferv (f : Opd) (args : List Opd)
  | panic (x : Opd)
  | recover
  deriving Inhabited

structure AOper where
  dst : Option Nat
  guard : Option (Nat × Bool)
  op : AOp
  deriving Inhabited

inductive ACode where
  | skip
  | reg (ops : List AOper)
  | draw (ops : List (AOper × List AOper))
  | seq (a b : ACode)
  | cond (c : Opd) (thn els : ACode)
  | block (id : Nat) (body : ACode)
  | loop (body : ACode)
  | rangeF (f : Opd) (params : List Nat) (nt fn : Nat) (assign body : ACode)
  | exit (id : Nat)
  | scope (body : ACode)
  | refuse
  | ret
  deriving Inhabited

inductive ARV where
  | tmp (t : Nat)
  | cell (a : Nat) (agg : Bool) (n : Nat)
  deriving Inhabited

inductive Intr where
  | noEscape
  | makeNoZero (ty : Nat)
  | indexByte
  | indexByteString
  | countString
  deriving Inhabited

/-! Memory -/
inductive LSt where
  | ready | busy | done | exhausted
  deriving Inhabited, DecidableEq

inductive Jump where
  | ret
  | exit (id : Nat)
  deriving Inhabited

structure LRec where
  st : LSt
  pending : Option Jump
  t : Tm
  nt : Nat
  fn : Nat
  params : List Nat
  assign : ACode
  body : ACode
  deriving Inhabited

inductive AObj where
  | cells (ty : Nat) (cs : List AV) (own : Bool) (frz : Nat) (anc : List (Nat × Nat))
  | map (kk : KeyK) (es : List (AV × AV))
  | iter (s : List UInt8) (pos : Nat)
  | loop (r : LRec)
  | dead
  deriving Inhabited

/-! A tree of blocks, the first at its root, the odd ones to the left -/
inductive Tr where
  | nil
  | node (o : Option AObj) (l r : Tr)
  deriving Inhabited

def Tr.get : Tr → Nat → Option AObj
  | .nil, _ => none
  | .node v _ _, 0 => v
  | .node _ l r, j + 1 => bif Nat.beq (Nat.mod j 2) 0 then Tr.get l (Nat.div j 2) else Tr.get r (Nat.div j 2)

def Tr.setN : Nat → Tr → Nat → AObj → Tr
  | 0, t, _, _ => t
  | _ + 1, .nil, 0, v => .node (some v) .nil .nil
  | n + 1, .nil, j + 1, v => bif Nat.beq (Nat.mod j 2) 0 then .node none (Tr.setN n .nil (Nat.div j 2) v) .nil else .node none .nil (Tr.setN n .nil (Nat.div j 2) v)
  | _ + 1, .node _ l r, 0, v => .node (some v) l r
  | n + 1, .node x l r, j + 1, v => bif Nat.beq (Nat.mod j 2) 0 then .node x (Tr.setN n l (Nat.div j 2) v) r else .node x l (Tr.setN n r (Nat.div j 2) v)

def Tr.set (t : Tr) (i : Nat) (v : AObj) : Tr := Tr.setN (i + 1) t i v

theorem Tr.get_nil (i : Nat) : Tr.get .nil i = none := by cases i <;> rfl

theorem Tr.get_succ (x : Option AObj) (l r : Tr) (j : Nat) : Tr.get (.node x l r) (j + 1) = if j % 2 = 0 then Tr.get l (j / 2) else Tr.get r (j / 2) := by
  show (bif Nat.beq (Nat.mod j 2) 0 then Tr.get l (j / 2) else Tr.get r (j / 2)) = _
  rw [mod2]
  by_cases h : j % 2 = 0 <;> simp [h]

theorem Tr.get_setN : ∀ (n : Nat) (t : Tr) (i j : Nat) (v : AObj), i < n → Tr.get (Tr.setN n t i v) j = if i = j then some v else Tr.get t j
  | 0, _, _, _, _, h => by omega
  | n + 1, .nil, 0, j, v, h => by
    show Tr.get (.node (some v) .nil .nil) j = _
    cases j with
    | zero => rfl
    | succ j => simp [Tr.get_succ, Tr.get_nil]
  | n + 1, .node x l r, 0, j, v, h => by
    show Tr.get (.node (some v) l r) j = _
    cases j with
    | zero => rfl
    | succ j => rw [Tr.get_succ, Tr.get_succ, if_neg (c := 0 = j + 1) (by omega)]
  | n + 1, .nil, k + 1, j, v, h => by
    have ih := Tr.get_setN n
    show Tr.get (bif Nat.beq (Nat.mod k 2) 0 then .node none (Tr.setN n .nil (k / 2) v) .nil else .node none .nil (Tr.setN n .nil (k / 2) v)) j = _
    rw [mod2]
    by_cases hk : k % 2 = 0
    · simp only [hk, decide_true, cond_true]
      cases j with
      | zero => rw [if_neg (by omega), Tr.get_nil]; rfl
      | succ j =>
        rw [Tr.get_succ, Tr.get_nil, Tr.get_nil, ih _ _ _ _ (by omega), Tr.get_nil]
        by_cases hj : j % 2 = 0
        · rw [if_pos hj]
          have : (k / 2 = j / 2) ↔ (k + 1 = j + 1) := by omega
          simp only [this]
        · rw [if_neg hj, if_neg (by omega)]
    · simp only [hk, decide_false, cond_false]
      cases j with
      | zero => rw [if_neg (by omega), Tr.get_nil]; rfl
      | succ j =>
        rw [Tr.get_succ, Tr.get_nil, Tr.get_nil, ih _ _ _ _ (by omega), Tr.get_nil]
        by_cases hj : j % 2 = 0
        · rw [if_pos hj, if_neg (by omega)]
        · rw [if_neg hj]
          have : (k / 2 = j / 2) ↔ (k + 1 = j + 1) := by omega
          simp only [this]
  | n + 1, .node x l r, k + 1, j, v, h => by
    have ih := Tr.get_setN n
    show Tr.get (bif Nat.beq (Nat.mod k 2) 0 then .node x (Tr.setN n l (k / 2) v) r else .node x l (Tr.setN n r (k / 2) v)) j = _
    rw [mod2]
    by_cases hk : k % 2 = 0
    · simp only [hk, decide_true, cond_true]
      cases j with
      | zero => rw [if_neg (by omega)]; rfl
      | succ j =>
        rw [Tr.get_succ, Tr.get_succ, ih _ _ _ _ (by omega)]
        by_cases hj : j % 2 = 0
        · rw [if_pos hj, if_pos hj]
          have : (k / 2 = j / 2) ↔ (k + 1 = j + 1) := by omega
          simp only [this]
        · rw [if_neg hj, if_neg hj, if_neg (by omega)]
    · simp only [hk, decide_false, cond_false]
      cases j with
      | zero => rw [if_neg (by omega)]; rfl
      | succ j =>
        rw [Tr.get_succ, Tr.get_succ, ih _ _ _ _ (by omega)]
        by_cases hj : j % 2 = 0
        · rw [if_pos hj, if_pos hj, if_neg (by omega)]
        · rw [if_neg hj, if_neg hj]
          have : (k / 2 = j / 2) ↔ (k + 1 = j + 1) := by omega
          simp only [this]

theorem Tr.get_set (t : Tr) (i j : Nat) (v : AObj) : Tr.get (t.set i v) j = if i = j then some v else t.get j := Tr.get_setN (i + 1) t i j v (Nat.lt_succ_self i)

structure Heap where
  next : Nat
  m : Tr
  deriving Inhabited

def Heap.get (h : Heap) (i : Nat) : Option AObj := h.m.get i
def Heap.set (h : Heap) (i : Nat) (o : AObj) : Heap := { h with m := h.m.set i o }
/-- A new block. -/
def Heap.alloc (h : Heap) (o : AObj) : Option (Nat × Heap) := some (h.next, { next := h.next + 1, m := h.m.set h.next o })

def newCells (h : Heap) (ty : Nat) (cs : List AV) : Option (Nat × Heap) := h.alloc (.cells ty cs true 1 [])

/-- what was made of a string -/
def newCellsS (h : Heap) (ty : Nat) (cs : List AV) : Option (Nat × Heap) := if cs.length ≤ 4611686018427387904 then h.alloc (.cells ty cs true 0 []) else none

/-- what is left of a block of which the first n cells have been read as a string -/
def frozenA (ty : Nat) (cs : List AV) (frz : Nat) (anc : List (Nat × Nat)) (n : Nat) : AObj :=
  match frz with | 0 => .cells ty cs false 0 anc | f + 1 => .cells ty cs true (max f n + 1) anc

/-! Whole numbers -/
def inK : IntKind → Int → Bool
  | .i8, n => decide (-128 ≤ n) && decide (n ≤ 127)
  | .i16, n => decide (-32768 ≤ n) && decide (n ≤ 32767)
  | .i32, n => decide (-2147483648 ≤ n) && decide (n ≤ 2147483647)
  | .i64, n => decide (-9223372036854775808 ≤ n) && decide (n ≤ 9223372036854775807)
  | .u8, n => decide (0 ≤ n) && decide (n ≤ 255)
  | .u16, n => decide (0 ≤ n) && decide (n ≤ 65535)
  | .u32, n => decide (0 ≤ n) && decide (n ≤ 4294967295)
  | .u64, n => decide (0 ≤ n) && decide (n ≤ 18446744073709551615)

def wrapA (k : IntKind) (n : Int) : Int := bif inK k n then n else k.wrap n

def goI (n : Nat) : AV := .int .i64 n

/-! Comparison -/
def beqB : List UInt8 → List UInt8 → Bool
  | [], [] => true
  | a :: x, b :: y => bif Nat.beq a.toNat b.toNat then beqB x y else false
  | _, _ => false

def primEq : PK → AV → AV → Option Bool
  | .int, .int j a, .int k b => if j = k then some (a == b) else none
  | .str, .str a, .str b => some (beqB a b)
  | .bool, .bool a, .bool b => some (a == b)
  | _, _, _ => none

def flatEq : List PK → List AV → List AV → Option Bool
  | [], [], [] => some true
  | p :: ps, a :: x, b :: y =>
    match primEq p a b, flatEq ps x y with
    | some r, some s => some (r && s)
    | _, _ => none
  | _, _, _ => none

def keyEq : KeyK → AV → AV → Option Bool
  | .prim p, a, b => primEq p a b
  | .flat ks, .agg x, .agg y => flatEq ks x y
  | _, _, _ => none

def pkIn (t : Nat) : List (Nat × PK) → Option PK
  | [] => none
  | (u, p) :: l => bif Nat.beq u t then some p else pkIn t l

def eqA : EqK → AV → AV → Option Bool
  | .num, .int j a, .int k b => if j = k then some (a == b) else none
  | .num, .str a, .str b => some (beqB a b)
  | .bool, .bool a, .bool b => some (a == b)
  | .ptr, .nilptr, .nilptr => some true
  | .ptr, .nilptr, .ptr _ _ | .ptr, .ptr _ _, .nilptr | .ptr, .nilptr, .pptr _ _ | .ptr, .pptr _ _, .nilptr => some false
  | .ptr, .ptr b o, .ptr b' o' => if b = b' then some (Nat.beq o o') else none
  | .iface lit _, .niliface, .niliface => if lit then some true else none
  | .iface _ _, .niliface, .iface _ _ | .iface _ _, .iface _ _, .niliface => some false
  | .iface _ oks, .iface t v, .iface u x => if t = u then (match pkIn t oks with | some p => primEq p v x | none => none) else some false
  | .slice, .nilslice, .nilslice => some true
  | .slice, .nilslice, .slice .. | .slice, .slice .., .nilslice | .slice, .nilslice, .pslice .. | .slice, .pslice .., .nilslice | .slice, .nilslice, .eslice | .slice, .eslice, .nilslice => some false
  | .func, .nilfunc, .nilfunc => some true
  | .func, .nilfunc, .func .. | .func, .func .., .nilfunc => some false
  | .flat ks, .agg x, .agg y => flatEq ks x y
  | _, _, _ => none

def ltB : List UInt8 → List UInt8 → Bool
  | _, [] => false
  | [], _ :: _ => true
  | a :: x, b :: y => bif Nat.blt a.toNat b.toNat then true else (bif Nat.beq a.toNat b.toNat then ltB x y else false)

def binA (op : BinOp) (q : EqK) (x y : AV) : Option AV :=
  match op, x, y with
  | .eql, x, y => (eqA q x y).map .bool
  | .neq, x, y => (eqA q x y).map fun b => .bool (!b)
  | .shl, .int k a, .int _ b => if b < 0 then none else some (.int k (wrapA k (a * 2 ^ (min b.toNat k.bits))))
  | .shr, .int k a, .int _ b => if b < 0 then none else some (.int k (a.fdiv (2 ^ (min b.toNat k.bits))))
  | op, .int j a, .int k b =>
    if j = k then
      match op with
      | .add => some (.int k (wrapA k (a + b)))
      | .sub => some (.int k (wrapA k (a - b)))
      | .mul => some (.int k (wrapA k (a * b)))
      | .quo => if b = 0 then none else some (.int k (wrapA k (a.tdiv b)))
      | .rem => if b = 0 then none else some (.int k (a.tmod b))
      | .lss => some (.bool (decide (a < b)))
      | .leq => some (.bool (decide (a ≤ b)))
      | .gtr => some (.bool (decide (b < a)))
      | .geq => some (.bool (decide (b ≤ a)))
      | .and => some (.int k (k.wrap (BitVec.ofInt k.bits a &&& BitVec.ofInt k.bits b).toNat))
      | .or => some (.int k (k.wrap (BitVec.ofInt k.bits a ||| BitVec.ofInt k.bits b).toNat))
      | .xor => some (.int k (k.wrap (BitVec.ofInt k.bits a ^^^ BitVec.ofInt k.bits b).toNat))
      | .andNot => some (.int k (k.wrap (BitVec.ofInt k.bits a &&& ~~~ BitVec.ofInt k.bits b).toNat))
      | _ => none
    else none
  | .add, .str a, .str b => if a.length + b.length ≤ 4611686018427387904 then some (.str (a ++ b)) else none
  | .lss, .str a, .str b => some (.bool (ltB a b))
  | .leq, .str a, .str b => some (.bool (ltB a b || beqB a b))
  | .gtr, .str a, .str b => some (.bool (!(ltB a b || beqB a b)))
  | .geq, .str a, .str b => some (.bool (!ltB a b))
  | _, _, _ => none

def unA (op : UnOp) (x : AV) : Option AV :=
  match op, x with
  | .not, .bool b => some (.bool (!b))
  | .neg, .int k n => some (.int k (wrapA k (0 - n)))
  | _, _ => none

/-! Cells -/
def AV.isCell : AV → Bool
  | .agg _ | .tuple _ | .bot => false
  | _ => true

def AV.cells : AV → List AV
  | .agg cs => cs
  | v => [v]

def takeN : List AV → Nat → Option (List AV)
  | _, 0 => some []
  | [], _ + 1 => none
  | x :: l, n + 1 => match takeN l n with | some r => some (x :: r) | none => none

/-- cells off .. off + n of a list -/
def cut (cs : List AV) (off n : Nat) : Option (List AV) := takeN (cs.drop off) n

/-- a list with other cells from off on -/
def over : List AV → Nat → List AV → Option (List AV)
  | cs, 0, [] => some cs
  | [], 0, _ :: _ => none
  | _ :: cs, 0, v :: vs => match over cs 0 vs with | some r => some (v :: r) | none => none
  | [], _ + 1, _ => none
  | c :: cs, o + 1, vs => match over cs o vs with | some r => some (c :: r) | none => none

def allCells : List AV → Bool
  | [] => true
  | v :: l => v.isCell && allCells l

/-- a block that has been made -/
def Heap.find (h : Heap) (b : Nat) : Option AObj := bif Nat.blt b h.next then h.get b else none

def readAt (h : Heap) (b o n : Nat) : Option (List AV) :=
  match h.find b with
  | some (.cells _ cs _ _ _) => cut cs o n
  | _ => none

def readV (agg : Bool) (n : Nat) (cs : List AV) : Option AV :=
  if agg then some (.agg cs) else match cs with | [v] => if n = 1 then some v else none | _ => none

/-- ancestors that a write at o turns are dead -/
def kill (h : Heap) (o : Nat) : List (Nat × Nat) → Heap
  | [] => h
  | (a, n) :: r => kill (if o < n then h.set a .dead else h) o r

def writeAt (h : Heap) (b o : Nat) (vs : List AV) : Option Heap :=
  match vs with
  | [] => some h
  | _ =>
  match h.get b with
  | some (.cells ty cs true frz anc) =>
    if o + 1 < frz then none else if allCells vs then
      match over cs o vs with
      | some cs' => some (kill (h.set b (.cells ty cs' true frz anc)) o anc)
      | none => none
    else none
  | _ => none

/-- a part of an aggregate -/
def fillA (cs : List AV) : List (Nat × Nat × AV) → Option (List AV)
  | [] => some cs
  | (off, n, v) :: r =>
    if v.cells.length = n ∧ allCells v.cells then
      match over cs off v.cells with
      | some cs' => fillA cs' r
      | none => none
    else none

def boundA (x : AV) (m : Nat) : Option Nat :=
  match x with
  | .int _ n => if 0 ≤ n ∧ n ≤ (m : Int) then some n.toNat else none
  | _ => none

def boundO (t : Tm) (x : Option Opd) (dflt m : Nat) : Option Nat :=
  match x with
  | none => some dflt
  | some o => boundA (o.ev t) m

def idxA (x : AV) (m : Nat) : Option Nat :=
  match x with
  | .int _ n => if 0 ≤ n ∧ n < (m : Int) then some n.toNat else none
  | _ => none

def capA (t : Tm) (cap : Option Nat) (n : Nat) : Option Opd → Option (Option Nat)
  | none => some cap
  | some m => (boundA (m.ev t) (cap.getD n)).map some

/-- how many elements are known to lie behind a slice's first one -/
def extA (h : Heap) (v : AV) (e : Nat) : Option Nat :=
  match v with
  | .slice b o _ none _ => (match h.find b with | some (.cells _ cs true _ _) => some (Nat.div (cs.length - o) e) | some _ => some 0 | none => none)
  | _ => some 0

/-- low, high of a slice expression; the capacity is only looked at where a bound lies behind the length -/
def sliceSlA (e : Nat) (x : AV) (t : Tm) (lo hi mx : Option Opd) (k : Nat) : Option AV :=
  match x with
  | .nilslice =>
    match boundO t mx 0 0, boundO t hi 0 0, boundO t lo 0 0 with
    | some _, some _, some _ => some .nilslice
    | _, _, _ => none
  | .slice b o n cap e' =>
    if e' ≠ e then none else
    match capA t cap n mx with
    | none => none
    | some cap' =>
      match boundO t hi n (cap'.getD (max n k)) with
      | none => none
      | some h =>
        match boundO t lo 0 h with
        | none => none
        | some l => if cap' = some l then some (.slice b o (h - l) (some 0) e) else
            match cap' with
            | some c => some (.slice b (o + l * e) (h - l) (some (c - l)) e)
            | none => if l < max n k then some (.slice b (o + l * e) (h - l) none e) else if l = 0 then some (.slice b o (h - l) none e) else some .eslice
  | .pslice cs o n cap =>
    match capA t cap n mx with
    | none => none
    | some cap' =>
      match boundO t hi n (min (cap'.getD n) n) with
      | none => none
      | some h =>
        match boundO t lo 0 h with
        | none => none
        | some l => if cap' = some l then some (.pslice cs o (h - l) (some 0)) else
            match cap' with
            | some c => some (.pslice cs (o + l * e) (h - l) (some (c - l)))
            | none => if l < n then some (.pslice cs (o + l * e) (h - l) none) else if l = 0 then some (.pslice cs o (h - l) none) else some .eslice
  | .eslice =>
    match boundO t mx 0 0, boundO t hi 0 0, boundO t lo 0 0 with
    | some _, some _, some _ => some .eslice
    | _, _, _ => none
  | _ => none

def sliceStrA (s : List UInt8) (t : Tm) (lo hi : Option Opd) : Option AV :=
  let n := s.length
  match boundO t hi n n with
  | none => none
  | some h =>
    match boundO t lo 0 h with
    | none => none
    | some l => some (.str ((s.take h).drop l))

def lookA (kk : KeyK) (k : AV) : List (AV × AV) → Option (Option AV)
  | [] => some none
  | (k', v) :: r =>
    match keyEq kk k k' with
    | some true => some (some v)
    | some false => lookA kk k r
    | none => none

def putA (kk : KeyK) (k v : AV) : List (AV × AV) → Option (List (AV × AV))
  | [] => some [(k, v)]
  | (k', v') :: r =>
    match keyEq kk k k' with
    | some true => some ((k, v) :: r)
    | some false => (putA kk k v r).map ((k', v') :: ·)
    | none => none

def keyOK : KeyK → AV → Bool
  | .prim p, v => (primEq p v v).isSome
  | .flat ks, .agg cs => (flatEq ks cs cs).isSome
  | _, _ => false

/-- with whether it was there -/
def okV (ok : Bool) (v : AV) (b : Bool) : AV := if ok then .tuple [v, .bool b] else v

def hintA (t : Tm) : Option Opd → Bool
  | none => true
  | some o => match o.ev t with | .int _ _ => true | _ => false

def byteA (b : UInt8) : AV := .int .u8 b.toNat

def bytesOf : List AV → Option (List UInt8)
  | [] => some []
  | .int .u8 n :: r => match bytesOf r with | some l => some (UInt8.ofNat n.toNat :: l) | none => none
  | _ => none

/-- the cells of what is appended or copied: n elements of e cells -/
def sourceA (h : Heap) (e : Nat) (x : AV) (n : Nat) : Option (List AV) :=
  match x with
  | .nilslice | .eslice => if n = 0 then some [] else none
  | .slice b o _ _ e' => if e' = e then (if n = 0 then some [] else readAt h b o (n * e)) else none
  | .pslice cs o _ _ => if n = 0 then some [] else cut cs o (n * e)
  | .str s => some ((s.take n).map byteA)
  | _ => none

def lenA : AV → Option Nat
  | .nilslice | .eslice => some 0
  | .slice _ _ n _ _ => some n
  | .pslice _ _ n _ => some n
  | .str s => some s.length
  | _ => none

/-- how many bytes a slice may grow to -/
def roomA : Nat := 35184372088832

/-- append of cells (m elements of e cells) -/
def appendA (ty e bytes : Nat) (s : AV) (new : List AV) (m : Nat) (h : Heap) : Option (AV × Heap) :=
  if allCells new ∧ new.length = m * e then
  match s with
  | .nilslice =>
    if m = 0 then some (.nilslice, h)
    else if m * bytes ≤ roomA then
      match h.alloc (.cells ty new true 1 []) with
      | some (b, h') => some (.slice b 0 m none e, h')
      | none => none
    else none
  | .slice b o n cap e' =>
    if e' ≠ e then none else
    if m = 0 then some (s, h) else
    match cap with
    | some c =>
      if n + m ≤ c then
        match writeAt h b (o + n * e) new with
        | some h' => some (.slice b o (n + m) (some c) e, h')
        | none => none
      else if (n + m) * bytes ≤ roomA then
        match readAt h b o (n * e) with
        | some old =>
          match h.alloc (.cells ty (old ++ new) true 1 []) with
          | some (b', h') => some (.slice b' 0 (n + m) none e, h')
          | none => none
        | none => none
      else none
    | none =>
      match h.get b with
      | some (.cells tb cs true frz anc) =>
        if o + (n + m) * e ≤ cs.length then
          match writeAt h b (o + n * e) new with
          | some h' => some (.slice b o (n + m) none e, h')
          | none => none
        else if (n + m) * bytes ≤ roomA ∧ o = 0 ∧ frz ≤ n * e + 1 ∧ tb = ty then
          match cut cs o (n * e) with
          | some old =>
            match (kill (h.set b (if n * e = cs.length then .cells tb cs false frz anc else .dead)) (n * e) anc).alloc (.cells ty (old ++ new) true frz (if n * e = cs.length then (b, n * e) :: anc else anc)) with
            | some (b', h') => some (.slice b' 0 (n + m) none e, h')
            | none => none
          | none => none
        else none
      | _ => none
  | .pslice cs o n cap =>
    if m = 0 then some (s, h) else
    match cap with
    | some c =>
      if n + m ≤ c then none
      else if (n + m) * bytes ≤ roomA then
        match cut cs o (n * e) with
        | some old =>
          match h.alloc (.cells ty (old ++ new) true 1 []) with
          | some (b', h') => some (.slice b' 0 (n + m) none e, h')
          | none => none
        | none => none
      else none
    | none => none
  | .eslice => if m = 0 then some (.eslice, h) else none
  | _ => none
  else none

def evalAll (t : Tm) : List Opd → List AV
  | [] => []
  | o :: l => o.ev t :: evalAll t l

def evParts (t : Tm) : List (Nat × Nat × Opd) → List (Nat × Nat × AV)
  | [] => []
  | (a, b, o) :: l => (a, b, o.ev t) :: evParts t l

def evPartsS (e : Nat) (t : Tm) : List (Nat × Opd) → List (Nat × Nat × AV)
  | [] => []
  | (i, o) :: l => (i * e, e, o.ev t) :: evPartsS e t l

def minmaxA (isMax : Bool) : AV → List AV → Option AV
  | v, [] => some v
  | .int k a, .int j b :: l => if j = k then minmaxA isMax (.int k (bif isMax then (if b > a then b else a) else (if b < a then b else a))) l else none
  | _, _ => none

/-- the bytes of a slice -/
def b2sA (h : Heap) : AV → Option (List UInt8)
  | .nilslice | .eslice => some []
  | .slice b o n _ e => if e = 1 then (if n = 0 then some [] else match readAt h b o n with | some cs => bytesOf cs | none => none) else none
  | .pslice cs o n _ => if n = 0 then some [] else match cut cs o n with | some cs => bytesOf cs | none => none
  | _ => none

def convA (c : ConvK) (v : AV) (h : Heap) : Option (AV × Heap) :=
  match c with
  | .i2i k => match v with | .int _ n => some (.int k (wrapA k n), h) | _ => none
  | .s2s => match v with | .str s => some (.str s, h) | _ => none
  | .s2b ty => match v with | .str s => (match newCellsS h ty (s.map byteA) with | some (b, h') => some (.slice b 0 s.length none 1, h') | none => none) | _ => none
  | .b2s => match b2sA h v with | some l => some (.str l, h) | none => none
  | .upc ty n =>
    match v with
    | .nilptr => some (.nilptr, h)
    | .ptr b 0 => match h.find b with | some (.cells ty' cs _ _ _) => if ty' = ty ∧ cs.length = n then some (.ptr b 0, h) else none | _ => none
    | _ => none
  | .i2s => match v with | .int _ n => some (.str (Utf8.encode n).data.toList, h) | _ => none

/-- An operation that calls nothing: what it yields, and the memory behind it. -/
def evOp (o : AOp) (t : Tm) (h : Heap) : Option (AV × Heap) :=
  match o with
  | .move x => some (x.ev t, h)
  | .pick c a b => match c.ev t with | .bool true => some (a.ev t, h) | .bool false => some (b.ev t, h) | _ => none
  | .alloc ty zs => match newCells h ty zs with | some (b, h') => some (.ptr b 0, h') | none => none
  | .box ty x => if allCells (x.ev t).cells then (match newCells h ty (x.ev t).cells with | some (b, h') => some (.ptr b 0, h') | none => none) else none
  | .build zs ps => match fillA zs (evParts t ps) with | some cs => some (.agg cs, h) | none => none
  | .buildSlice ty zs e n ps =>
    match fillA zs (evPartsS e t ps) with
    | some cs => match newCells h ty cs with | some (b, h') => some (.slice b 0 n (some n) e, h') | none => none
    | none => none
  | .load agg n x =>
    match x.ev t with
    | .ptr b o => match readAt h b o n with | some cs => (match readV agg n cs with | some v => some (v, h) | none => none) | none => none
    | .pptr cs o => match cut cs o n with | some cs => (match readV agg n cs with | some v => some (v, h) | none => none) | none => none
    | _ => none
  | .store n a x =>
    match a.ev t with
    | .ptr b o => if (x.ev t).cells.length = n then (match writeAt h b o (x.ev t).cells with | some h' => some (undefA, h') | none => none) else none
    | _ => none
  | .nilCheck x => match x.ev t with | .ptr b o => some (.ptr b o, h) | .pptr cs o => some (.pptr cs o, h) | .func f a c => some (.func f a c, h) | _ => none
  | .bin op q x y => match binA op q (x.ev t) (y.ev t) with | some v => some (v, h) | none => none
  | .un op x => match unA op (x.ev t) with | some v => some (v, h) | none => none
  | .conv c x => convA c (x.ev t) h
  | .mkIface ty x => some (.iface ty (x.ev t), h)
  | .mkFunc f a c => some (.func f (evalAll t a) (evalAll t c), h)
  | .makeMap kk x => if hintA t x then (match h.alloc (.map kk []) with | some (b, h') => some (.map b, h') | none => none) else none
  | .makeSlice ty e bytes zs l c =>
    match l.ev t, c.ev t with
    | .int .i64 l, .int .i64 c =>
      if 0 ≤ l ∧ l ≤ c ∧ c.toNat * bytes ≤ roomA ∧ c ≤ 1048576 then
        match newCells h ty (List.flatten (List.replicate c.toNat zs)) with
        | some (b, h') => some (.slice b 0 l.toNat (some c.toNat) e, h')
        | none => none
      else none
    | _, _ => none
  | .sliceStr x lo hi => match x.ev t with | .str s => (match sliceStrA s t lo hi with | some v => some (v, h) | none => none) | _ => none
  | .sliceSl e x lo hi mx => match extA h (x.ev t) e with | some k => (match sliceSlA e (x.ev t) t lo hi mx k with | some v => some (v, h) | none => none) | none => none
  | .sliceArr n e x lo hi =>
    match x.ev t with
    | .ptr b o => match boundO t hi n n with
      | some hi' => match boundO t lo 0 hi' with
        | some lo' => some (.slice b (if n = lo' then o else o + lo' * e) (hi' - lo') (some (n - lo')) e, h)
        | none => none
      | none => none
    | _ => none
  | .fieldAddr off x => match x.ev t with | .ptr b o => some (.ptr b (o + off), h) | .pptr cs o => some (.pptr cs (o + off), h) | _ => none
  | .field agg off n x =>
    match x.ev t with
    | .agg cs => match cut cs off n with | some r => (match readV agg n r with | some v => some (v, h) | none => none) | none => none
    | _ => none
  | .idxAddrS e x i =>
    match x.ev t with
    | .slice b o n _ e' => if e' = e then (match idxA (i.ev t) n with | some j => some (.ptr b (o + j * e), h) | none => none) else none
    | .pslice cs o n _ => match idxA (i.ev t) n with | some j => some (.pptr cs (o + j * e), h) | none => none
    | _ => none
  | .idxAddrA n e x i =>
    match x.ev t with
    | .ptr b o => match idxA (i.ev t) n with | some j => some (.ptr b (o + j * e), h) | none => none
    | .pptr cs o => match idxA (i.ev t) n with | some j => some (.pptr cs (o + j * e), h) | none => none
    | _ => none
  | .idxArr g m n x i => match x.ev t with
    | .agg cs => (match idxA (i.ev t) m with
      | some j => match cut cs (j * n) n with | some l => (match readV g n l with | some v => some (v, h) | none => none) | none => none
      | none => none)
    | _ => none
  | .idxStr x i => match x.ev t, i.ev t with | .str s, .int _ n => if 0 ≤ n then (match s[n.toNat]? with | some b => some (byteA b, h) | none => none) else none | _, _ => none
  | .lookup kk zero ok x i =>
    if keyOK kk (i.ev t) then
    match x.ev t with
    | .map b => match h.find b with
      | some (.map kk' es) => if kk' = kk then (match lookA kk (i.ev t) es with | some (some v) => some (okV ok v true, h) | some none => some (okV ok zero false, h) | none => none) else none
      | _ => none
    | .nilmap => some (okV ok zero false, h)
    | _ => none
    else none
  | .mapUpdate kk m k x =>
    if keyOK kk (k.ev t) then
    match m.ev t with
    | .map b => match h.get b with
      | some (.map kk' es) => if kk' = kk then (match putA kk (k.ev t) (x.ev t) es with | some es' => some (undefA, h.set b (.map kk es')) | none => none) else none
      | _ => none
    | _ => none
    else none
  | .assertT ty zero ok x =>
    match x.ev t with
    | .iface u v => if u = ty then some (if ok then .tuple [v, .bool true] else v, h) else if ok then some (.tuple [zero, .bool false], h) else none
    | .niliface => if ok then some (.tuple [zero, .bool false], h) else none
    | _ => none
  | .extract x i => match x.ev t with | .tuple vs => (match vs[i]? with | some v => some (v, h) | none => none) | _ => none
  | .len k x => match x.ev t with
    | .str s => if k then some (goI s.length, h) else none
    | u => if k then none else match lenA u with | some n => some (goI n, h) | none => none
  | .lenMap x => match x.ev t with
    | .nilmap => some (goI 0, h)
    | .map b => match h.find b with | some (.map _ es) => some (goI es.length, h) | _ => none
    | _ => none
  | .cap x => match x.ev t with | .nilslice => some (goI 0, h) | .slice _ _ _ (some c) _ => some (goI c, h) | .pslice _ _ _ (some c) => some (goI c, h) | _ => none
  | .append k ty e bytes zero s x =>
    match k with
    | .zeros => match x.ev t with
      | .int .i64 n => if 0 ≤ n ∧ n ≤ 67108864 then appendA ty e bytes (s.ev t) (List.flatten (List.replicate n.toNat zero)) n.toNat h else none
      | _ => none
    | _ => match lenA (x.ev t) with
      | some m => match sourceA h e (x.ev t) m with
        | some new => appendA ty e bytes (s.ev t) new m h
        | none => none
      | none => none
  | .copy e d s =>
    match lenA (s.ev t), lenA (d.ev t) with
    | some m, some n =>
      match sourceA h e (s.ev t) (min m n) with
      | some new => match d.ev t with
        | .nilslice | .eslice => some (goI (min m n), h)
        | .slice b o _ _ e' => if e' = e then (match writeAt h b o new with | some h' => some (goI (min m n), h') | none => none) else none
        | _ => none
      | none => none
    | _, _ => none
  | .minmax isMax x l => match minmaxA isMax (x.ev t) (evalAll t l) with | some v => some (v, h) | none => none
  | .sliceData x => match x.ev t with | .nilslice => some (.nilptr, h) | .slice b o n none _ => if n = 0 then none else some (.ptr b o, h) | .slice b o _ (some c) _ => if c = 0 then none else some (.ptr b o, h) | _ => none
  | .unsafeString ty x n =>
    match x.ev t, n.ev t with
    | .nilptr, .int .i64 0 => some (.str [], h)
    | .ptr b 0, .int .i64 n =>
      if n = 0 then some (.str [], h) else if 0 < n ∧ n ≤ 9223372036854775807 then
        match h.get b with
        | some (.cells ty' cs true frz anc) => if ty' ≠ ty then none else match cut cs 0 n.toNat with
          | some l => match bytesOf l with
            | some s => some (.str s, h.set b (frozenA ty' cs frz anc n.toNat))
            | none => none
          | none => none
        | _ => none
      else none
    | _, _ => none
  | .rangeStr x => match x.ev t with | .str s => (match h.alloc (.iter s 0) with | some (b, h') => some (.ptr b 0, h') | none => none) | _ => none
  | .nextStr x =>
    match x.ev t with
    | .ptr b 0 => match h.get b with
      | some (.iter s p) =>
        if p < s.length then
          match Utf8.decode ⟨s.toArray⟩ p with
          | (c, width) => some (.tuple [.bool true, goI p, .int .i32 c], h.set b (.iter s (p + width)))
        else some (.tuple [.bool false], h)
      | _ => none
    | _ => none
  | .callv .. | .deferv .. | .panic _ | .recover => none

inductive ADef where
  | call (f : Nat) (args : List AV)
  | mark
  deriving Inhabited

structure St where
  t : Tm
  d : List ADef
  h : Heap
  deriving Inhabited

inductive AX where
  | nrm
  | exit (id : Nat)
  | ret
  | pan (v : AV)
  deriving Inhabited

inductive ARes where
  | ret (v : AV)
  | pan (v : AV)
  deriving Inhabited

/-- whom is called: a function, or a round of a loop -/
inductive Who where
  | fn (f : Nat)
  | round (l : Nat)
  deriving Inhabited

def putD (t : Tm) : Option Nat → AV → Tm
  | some d, v => setT t d v
  | none, _ => t

def wantedA (t : Tm) : Option (Nat × Bool) → Option Bool
  | none => some true
  | some (i, b) => match getT t i with | .bool c => some (c == b) | .tuple [] => some false | _ => none

/-- the function and all its arguments -/
def calleeA (f : AV) (args : List AV) : Option (Who × List AV) :=
  match f with
  | .func g first cap => some (.fn g, first ++ args ++ cap)
  | .yield l => some (.round l, args)
  | _ => none

abbrev Rec := Who → List AV → Heap → Option (ARes × Heap)

inductive AFun where
  | body (nt : Nat) (results : List ARV) (rec : Bool) (c : ACode)
  | intr (i : Intr)
  /-- what is proved of the function: from values without places to values without places; no place that there was is changed -/
  | spec (F : List AV → Option AV)
  /-- what is proved of the function: how it turns the memory -/
  | hspec (F : List AV → Heap → Option (ARes × Heap))
  deriving Inhabited

def evOper (rc : Rec) (o : AOper) (s : St) : Option (AX × St) :=
  match wantedA s.t o.guard with
  | some true =>
    match o.op with
    | .callv f args =>
      match calleeA (f.ev s.t) (evalAll s.t args) with
      | some (w, l) =>
        match rc w l s.h with
        | some (.ret v, h) => some (.nrm, { s with t := putD s.t o.dst v, h := h })
        | some (.pan v, h) => some (.pan v, { s with h := h })
        | none => none
      | none => none
    | .deferv f args =>
      match calleeA (f.ev s.t) (evalAll s.t args) with
      | some (.fn g, l) => some (.nrm, { s with t := putD s.t o.dst undefA, d := .call g l :: s.d })
      | _ => none
    | .panic x => match x.ev s.t with | .iface ty v => some (.pan (.iface ty v), s) | _ => none
    | .recover => none
    | op =>
      match evOp op s.t s.h with
      | some (v, h) => some (.nrm, { s with t := putD s.t o.dst v, h := h })
      | none => none
  | some false => some (.nrm, { s with t := putD s.t o.dst undefA })
  | none => none

def evOpers (rc : Rec) : List AOper → St → Option (AX × St)
  | [], s => some (.nrm, s)
  | o :: os, s =>
    match evOper rc o s with
    | some (.nrm, s') => evOpers rc os s'
    | r => r

mutual
def sameA : AV → AV → Bool
  | .bool a, .bool b => a == b
  | .int j a, .int k b => decide (j = k) && a == b
  | .str a, .str b => beqB a b
  | .nilptr, .nilptr => true
  | .ptr b o, .ptr b' o' => Nat.beq b b' && Nat.beq o o'
  | .pptr c o, .pptr c' o' => sameL c c' && Nat.beq o o'
  | .nilslice, .nilslice => true
  | .eslice, .eslice => true
  | .slice b o n c e, .slice b' o' n' c' e' => Nat.beq b b' && Nat.beq o o' && Nat.beq n n' && decide (c = c') && Nat.beq e e'
  | .pslice cs o n c, .pslice cs' o' n' c' => sameL cs cs' && Nat.beq o o' && Nat.beq n n' && decide (c = c')
  | .nilmap, .nilmap => true
  | .map b, .map b' => Nat.beq b b'
  | .func f a c, .func f' a' c' => Nat.beq f f' && sameL a a' && sameL c c'
  | .yield l, .yield l' => Nat.beq l l'
  | .nilfunc, .nilfunc => true
  | .iface t v, .iface t' v' => Nat.beq t t' && sameA v v'
  | .niliface, .niliface => true
  | .agg a, .agg b => sameL a b
  | .tuple a, .tuple b => sameL a b
  | _, _ => false
def sameL : List AV → List AV → Bool
  | [], [] => true
  | a :: x, b :: y => sameA a b && sameL x y
  | _, _ => false
end

/-- what was read ahead of an operation that may write reads the same behind it -/
def checks (s : St) : List AOper → Bool
  | [] => true
  | r :: rs =>
    (match wantedA s.t r.guard with
    | some true =>
      match r.dst, evOp r.op s.t s.h with
      | some d, some (v, _) => sameA v (getT s.t d)
      | _, _ => false
    | some false => true
    | none => false) && checks s rs

def poison (t : Tm) : List (AOper × List AOper) → Tm
  | [] => t
  | (o, _) :: os => poison (putD t o.dst .bot) os

def evDraw (rc : Rec) : List (AOper × List AOper) → St → Option (AX × St)
  | [], s => some (.nrm, s)
  | (o, rs) :: os, s =>
    match evOper rc o s with
    | some (.nrm, s') => bif checks s' rs then evDraw rc os s' else none
    | r => r

def Jump.x : Jump → AX
  | .ret => .ret
  | .exit id => .exit id

def evLoop (f : St → Option (AX × St)) : Nat → St → Option (AX × St)
  | 0, _ => none
  | n + 1, s =>
    match f s with
    | some (.nrm, s') => evLoop f n s'
    | r => r

def evCode (rc : Rec) (n : Nat) : ACode → St → Option (AX × St)
  | .skip, s => some (.nrm, s)
  | .reg ops, s => evOpers rc ops s
  | .draw ops, s =>
    match evDraw rc ops s with
    | some (.pan v, s') => some (.pan v, { s' with t := poison s.t ops })
    | r => r
  | .seq a b, s =>
    match evCode rc n a s with
    | some (.nrm, s') => evCode rc n b s'
    | r => r
  | .cond c a b, s =>
    match c.ev s.t with
    | .bool true => evCode rc n a s
    | .bool false => evCode rc n b s
    | _ => none
  | .block id b, s =>
    match evCode rc n b s with
    | some (.exit i, s') => bif Nat.beq i id then some (.nrm, s') else some (.exit i, s')
    | r => r
  | .loop b, s => evLoop (evCode rc n b) n s
  | .rangeF f params nt fn assign body, s =>
    match s.h.alloc (.loop { st := .ready, pending := none, t := s.t, nt := nt, fn := fn, params := params, assign := assign, body := body }) with
    | some (l, h1) =>
      match f.ev s.t with
      | .func g first cap =>
        match rc (.fn g) (first ++ [.yield l] ++ cap) h1 with
        | some (.ret _, h2) =>
          match h2.get l with
          | some (.loop r) =>
            match r.st with
            | .busy => none
            | _ =>
              let s' : St := { t := s.t, d := .mark :: s.d, h := h2.set l (.loop { r with st := .exhausted }) }
              match r.pending with
              | none => some (.nrm, s')
              | some j => some (j.x, s')
          | _ => none
        | some (.pan v, h2) => some (.pan v, { t := s.t, d := .mark :: s.d, h := h2 })
        | none => none
      | _ => none
    | none => none
  | .exit id, s => some (.exit id, s)
  | .scope b, s => evCode rc n b s
  | .refuse, _ => none
  | .ret, s => some (.ret, s)

/-! A frame that leaves -/
inductive AMode where
  | ret
  | pan (v : AV)
  | recd (v : AV)
  deriving Inhabited

/-- an operation of a deferred call that may recover -/
def evOperS (o : AOper) (m : AMode) (s : St) : Option (AX × AMode × St) :=
  match wantedA s.t o.guard with
  | some true =>
    match o.op with
    | .recover =>
      match m with
      | .pan v => some (.nrm, .recd v, { s with t := putD s.t o.dst v })
      | m => some (.nrm, m, { s with t := putD s.t o.dst .niliface })
    | .callv .. | .deferv .. => none
    | .panic x => match x.ev s.t with | .iface ty v => some (.pan (.iface ty v), m, s) | _ => none
    | op =>
      match evOp op s.t s.h with
      | some (v, h) => some (.nrm, m, { s with t := putD s.t o.dst v, h := h })
      | none => none
  | some false => some (.nrm, m, { s with t := putD s.t o.dst undefA })
  | none => none

def evOpersS : List AOper → AMode → St → Option (AX × AMode × St)
  | [], m, s => some (.nrm, m, s)
  | o :: os, m, s =>
    match evOperS o m s with
    | some (.nrm, m', s') => evOpersS os m' s'
    | r => r

def evCodeS (rc : Rec) (n : Nat) : ACode → AMode → St → Option (AX × AMode × St)
  | .reg ops, m, s => evOpersS ops m s
  | .seq a b, m, s =>
    match evCodeS rc n a m s with
    | some (.nrm, m', s') => evCodeS rc n b m' s'
    | r => r
  | .cond c a b, m, s =>
    match c.ev s.t with
    | .bool true => evCodeS rc n a m s
    | .bool false => evCodeS rc n b m s
    | _ => none
  | .block id b, m, s =>
    match evCodeS rc n b m s with
    | some (.exit i, m', s') => bif Nat.beq i id then some (.nrm, m', s') else some (.exit i, m', s')
    | r => r
  | c, m, s => (evCode rc n c s).map fun (x, s') => (x, m, s')

def resultA (t : Tm) (h : Heap) : ARV → Option AV
  | .tmp i => some (getT t i)
  | .cell a agg n =>
    match getT t a with
    | .ptr b o => match readAt h b o n with | some cs => readV agg n cs | none => none
    | _ => none

def resultsA (t : Tm) (h : Heap) : List ARV → Option (List AV)
  | [] => some []
  | r :: rs => match resultA t h r, resultsA t h rs with | some v, some l => some (v :: l) | _, _ => none

def resultV : List AV → AV
  | [v] => v
  | l => .tuple l

/-- a deferred call -/
def evDeferred (prog : Nat → Option AFun) (rc : Rec) (n : Nat) (f : Nat) (args : List AV) (m : AMode) (h : Heap) : Option (ARes × AMode × Heap) :=
  match prog f with
  | some (.body _ rs _ c) =>
    match evCodeS rc n c m { t := argsT args, d := [], h := h } with
    | some (.nrm, m', s) => if s.d.isEmpty then (resultsA s.t s.h rs).map fun l => (.ret (resultV l), m', s.h) else none
    | some (.ret, m', s) => if s.d.isEmpty then (resultsA s.t s.h rs).map fun l => (.ret (resultV l), m', s.h) else none
    | some (.pan v, m', s) => if s.d.isEmpty then some (.pan v, m', s.h) else none
    | _ => none
  | _ => none

def leaveA (prog : Nat → Option AFun) (rc : Rec) (n : Nat) (rs : List ARV) (t : Tm) : List ADef → AMode → Heap → Option (ARes × Heap)
  | [], .ret, h => (resultsA t h rs).map fun l => (.ret (resultV l), h)
  | [], .pan v, h => some (.pan v, h)
  | [], .recd _, _ => none
  | .mark :: ds, m, h => leaveA prog rc n rs t ds m h
  | .call f args :: ds, m, h =>
    match evDeferred prog rc n f args m h with
    | some (.ret _, m', h') => leaveA prog rc n rs t ds (match m' with | .recd _ => .ret | m' => m') h'
    | some (.pan v, .ret, h') => leaveA prog rc n rs t ds (.pan v) h'
    | _ => none

def countB (c : UInt8) : List UInt8 → Nat
  | [] => 0
  | b :: l => (if b = c then 1 else 0) + countB c l

def findB (c : UInt8) : List UInt8 → Nat → Int
  | [], _ => -1
  | b :: l, i => if b = c then (i : Int) else findB c l (i + 1)

/-! Values with all that they lead to -/
def mapO (f : AV → Option AV) : List AV → Option (List AV)
  | [] => some []
  | v :: l => match f v with | some d => (match mapO f l with | some r => some (d :: r) | none => none) | none => none

def deepV (h : Heap) : Nat → AV → Option AV
  | 0, _ => none
  | n + 1, v =>
    match v with
    | .bot => some .bot | .bool b => some (.bool b) | .int k i => some (.int k i) | .str s => some (.str s) | .nilptr => some .nilptr | .nilslice => some .nilslice | .eslice => some .eslice
    | .nilmap => some .nilmap | .nilfunc => some .nilfunc | .niliface => some .niliface
    | .ptr b o => match h.find b with | some (.cells _ cs _ _ _) => (match mapO (deepV h n) cs with | some ds => some (.pptr ds o) | none => none) | _ => none
    | .pptr cs o => match mapO (deepV h n) cs with | some ds => some (.pptr ds o) | none => none
    | .slice b o m _ e => match readAt h b o (m * e) with | some cs => (match mapO (deepV h n) cs with | some ds => some (.pslice ds 0 m none) | none => none) | none => none
    | .pslice cs o m c => match mapO (deepV h n) cs with | some ds => some (.pslice ds o m c) | none => none
    | .func f a c => match mapO (deepV h n) a, mapO (deepV h n) c with | some x, some y => some (.func f x y) | _, _ => none
    | .iface t a => match deepV h n a with | some d => some (.iface t d) | none => none
    | .agg cs => match mapO (deepV h n) cs with | some ds => some (.agg ds) | none => none
    | .tuple cs => match mapO (deepV h n) cs with | some ds => some (.tuple ds) | none => none
    | .map _ | .yield _ => none

def evIntr (i : Intr) (args : List AV) (h : Heap) : Option (AV × Heap) :=
  match i, args with
  | .noEscape, [.ptr b o] => some (.ptr b o, h)
  | .noEscape, [.pptr b o] => some (.pptr b o, h)
  | .noEscape, [.nilptr] => some (.nilptr, h)
  | .makeNoZero ty, [.int .i64 n] => if 0 ≤ n ∧ n ≤ 1048576 then (match newCells h ty (List.replicate n.toNat .bot) with | some (b, h') => some (.slice b 0 n.toNat none 1, h') | none => none) else none
  | .indexByteString, [.str s, .int .u8 c] => some (.int .i64 (findB (UInt8.ofNat c.toNat) s 0), h)
  | .countString, [.str s, .int .u8 c] => some (goI (countB (UInt8.ofNat c.toNat) s), h)
  | .indexByte, [x, .int .u8 c] =>
    match lenA x with
    | some n => match sourceA h 1 x n with
      | some cs => match bytesOf cs with
        | some l => some (.int .i64 (findB (UInt8.ofNat c.toNat) l 0), h)
        | none => none
      | none => none
    | none => none
  | _, _ => none

def run (prog : Nat → Option AFun) : Nat → Rec
  | 0, _, _, _ => none
  | n + 1, .fn f, args, h =>
    match prog f with
    | some (.body _ rs false c) =>
      match evCode (run prog n) n c { t := argsT args, d := [], h := h } with
      | some (.nrm, s) => leaveA prog (run prog n) n rs s.t s.d .ret s.h
      | some (.ret, s) => leaveA prog (run prog n) n rs s.t s.d .ret s.h
      | some (.pan v, s) => leaveA prog (run prog n) n rs s.t s.d (.pan v) s.h
      | _ => none
    | some (.intr i) => match evIntr i args h with | some (v, h') => some (.ret v, h') | none => none
    | some (.spec F) => match mapO (deepV h 12) args with
      | some d => match F d with
        | some v => some (.ret v, h)
        | none => none
      | none => none
    | some (.hspec F) => F args h
    | _ => none
  | n + 1, .round l, args, h =>
    match h.get l with
    | some (.loop r) =>
      match r.st with
      | .ready =>
        if args.length = r.params.length then
          match evCode (run prog n) n r.assign { t := (r.params.zip args).foldl (fun t (p, v) => setT t p v) r.t, d := [], h := h } with
          | some (.nrm, s1) =>
            match s1.h.get l with
            | some (.loop r1) =>
              match r1.st with
              | .ready =>
                match evCode (run prog n) n r.body { s1 with h := s1.h.set l (.loop { r1 with st := .busy }) } with
                | some (x, s2) =>
                  if s2.d.isEmpty then
                    match s2.h.get l with
                    | some (.loop r2) =>
                      match x with
                      | .nrm => some (.ret (.bool true), s2.h.set l (.loop { r2 with st := .ready, pending := none }))
                      | .ret => some (.ret (.bool false), s2.h.set l (.loop { r2 with st := .done, pending := some .ret }))
                      | .exit id => some (.ret (.bool false), s2.h.set l (.loop { r2 with st := .done, pending := some (.exit id) }))
                      | .pan _ => none
                    | _ => none
                  else none
                | none => none
              | _ => none
            | _ => none
          | _ => none
        else none
      | _ => none
    | _ => none

end Go.AM

/- FROM THE LOADED PROGRAM TO THE ABSTRACT MACHINE's OPERATIONS. -/
namespace Go.AM

mutual
def valA : Value → Option AV
  | .bool b => some (.bool b)
  | .int k n => some (.int k n)
  | .string s => some (.str s.data.toList)
  | .pointer none => some .nilptr
  | .slice none 0 0 => some .nilslice
  | .map none => some .nilmap
  | .func (.func f) ⟨[]⟩ ⟨[]⟩ => some (.func f [] [])
  | .nilFunc => some .nilfunc
  | .iface t v => match valA v with | some a => some (.iface t a) | none => none
  | .nilIface => some .niliface
  | .agg ⟨cs⟩ => match valsA cs with | some l => some (.agg l) | none => none
  | .tuple ⟨vs⟩ => match valsA vs with | some l => some (.tuple l) | none => none
  | _ => none
def valsA : List Value → Option (List AV)
  | [] => some []
  | v :: l => match valA v, valsA l with | some a, some r => some (a :: r) | _, _ => none
end

structure Tb where
  P : Program
  G : Nat → Option (List AV)

def opdA (T : Tb) : Operand → Option Opd
  | .tmp t => some (.t t)
  | .const v => (valA v).map .k
  | .global g => (T.G g).map fun cs => .k (.pptr cs 0)
  | .func f => some (.k (.func f [] []))

def opdsA (T : Tb) : List Operand → Option (List Opd)
  | [] => some []
  | o :: l => match opdA T o, opdsA T l with | some a, some r => some (a :: r) | _, _ => none

def opdO (T : Tb) : Option Operand → Option (Option Opd)
  | none => some none
  | some o => (opdA T o).map some

def isAggA (P : Program) (t : TypeId) : Option Bool :=
  match P.underlying t with
  | some (.struct _) | some (.array ..) => some true
  | some _ => some false
  | none => none

def szA (P : Program) (t : TypeId) : Option Nat := (P.info? t).map (·.size)
def bytesA (P : Program) (t : TypeId) : Option Nat := (P.info? t).map (·.bytes)
def zeroA (P : Program) (t : TypeId) : Option AV := ((P.info? t).bind (·.zero)).bind valA
def zeroCs (P : Program) (t : TypeId) : Option (List AV) := (zeroA P t).map AV.cells

def pkOf (P : Program) (t : TypeId) : Option PK :=
  match P.underlying t with
  | some .bool => some .bool
  | some (.int _) => some .int
  | some .string => some .str
  | _ => none

def fieldsF (F : TypeId → Option (List PK)) (sz : TypeId → Option Nat) : Nat → List Field → Option (List PK)
  | _, [] => some []
  | i, f :: l =>
    if f.name ≠ "_" ∧ f.offset = i then
      match F f.type with
      | some ks => if sz f.type = some ks.length then (match fieldsF F sz (i + ks.length) l with | some r => some (ks ++ r) | none => none) else none
      | none => none
    else none

def flatF (P : Program) : Nat → TypeId → Option (List PK)
  | 0, _ => none
  | n + 1, t =>
    match pkOf P t with
    | some p => some [p]
    | none =>
      match P.underlying t with
      | some (.struct fs) => if P.stoodInHeld t then none else fieldsF (flatF P n) (szA P) 0 fs.toList
      | some (.array len e) =>
        match flatF P n e, szA P e with
        | some ks, some m => if ks.length = m then some (List.flatten (List.replicate len ks)) else none
        | _, _ => none
      | _ => none

/-- a struct or an array whose parts are, at last, whole numbers, bools and strings, one cell each -/
def flatT (P : Program) (t : TypeId) : Option (List PK) :=
  if isAggA P t = some true then (if P.eqGuardType P.depth t then none else flatF P 8 t) else none

def isK : Operand → Bool
  | .const _ => true
  | _ => false

def oksOf (P : Program) : List Nat → List (Nat × PK)
  | [] => []
  | t :: l =>
    match pkOf P t, P.info? t with
    | some p, some i => if i.comparable then (t, p) :: oksOf P l else oksOf P l
    | _, _ => oksOf P l

def eqK (P : Program) (t : TypeId) (lit : Bool) : Option EqK :=
  match P.underlying t with
  | some .bool => some .bool
  | some (.int _) | some .string => some .num
  | some (.interface _) => some (.iface lit (oksOf P (List.range P.types.size)))
  | some (.slice _) => some .slice
  | some (.func ..) => some .func
  | some (.pointer e) => match szA P e with | some n => if n = 0 then none else some .ptr | none => none
  | _ => (flatT P t).map .flat

def keyK (P : Program) (t : TypeId) : Option KeyK :=
  match pkOf P t with
  | some p => some (.prim p)
  | none => (flatT P t).map .flat

def partsA (T : Tb) (place : Nat → Option (Nat × Nat)) : List (Nat × Operand) → Option (List (Nat × Nat × Opd))
  | [] => some []
  | (i, o) :: l =>
    match place i, opdA T o, partsA T place l with
    | some (off, n), some a, some r => some ((off, n, a) :: r)
    | _, _, _ => none

def partsSA (T : Tb) : List (Nat × Operand) → Option (List (Nat × Opd))
  | [] => some []
  | (i, o) :: l => match opdA T o, partsSA T l with | some a, some r => some ((i, a) :: r) | _, _ => none

def builtinA (T : Tb) (b : Builtin) (at_ : List TypeId) (args : List Operand) : Option AOp :=
  let P := T.P
  match b, at_, args with
  | .len, [t], [x] =>
    match P.underlying t with
    | some .string => (opdA T x).map (.len true)
    | some (.slice _) => (opdA T x).map (.len false)
    | some (.map _ _) => (opdA T x).map .lenMap
    | some (.array n _) => some (.move (.k (goI n)))
    | _ => none
  | .cap, [t], [x] => match P.underlying t with | some (.slice _) => (opdA T x).map .cap | _ => none
  | .append, [ts, tx], [s, x] =>
    match P.underlying ts, opdA T s, opdA T x with
    | some (.slice e), some s, some x =>
      match szA P e, bytesA P e, zeroCs P e with
      | some n, some by_, some z =>
        if n = 0 ∨ z.length ≠ n ∨ by_ = 0 ∨ 1048576 < by_ then none else
        match P.underlying tx with
        | some (.slice _) => some (.append .slice e n by_ z s x)
        | some .string => some (.append .string e n by_ z s x)
        | some (.int _) => some (.append .zeros e n by_ z s x)
        | _ => none
      | _, _, _ => none
    | _, _, _ => none
  | .copy, [td, _], [d, s] =>
    match P.underlying td, opdA T d, opdA T s with
    | some (.slice e), some d, some s => match szA P e with | some n => if n = 0 then none else some (.copy n d s) | none => none
    | _, _, _ => none
  | .max, _, x :: l => match opdA T x, opdsA T l with | some x, some l => some (.minmax true x l) | _, _ => none
  | .min, _, x :: l => match opdA T x, opdsA T l with | some x, some l => some (.minmax false x l) | _, _ => none
  | .recover, _, _ => some .recover
  | _, _, _ => none

def opA (T : Tb) (o : Op) : Option AOp :=
  let P := T.P
  match o with
  | .move x | .assign x => (opdA T x).map .move
  | .pick c a b => match opdA T c, opdA T a, opdA T b with | some c, some a, some b => some (.pick c a b) | _, _, _ => none
  | .alloc e => (zeroCs P e).map (.alloc e)
  | .box e x => (opdA T x).map (.box e)
  | .build t ps =>
    match zeroCs P t, P.underlying t with
    | some z, some (.struct fs) => if !(fs.toList.all fun f => (szA P f.type).isSome) then none else (partsA T (fun i => match fs[i]? with | some f => (szA P f.type).map fun n => (f.offset, n) | none => none) ps.toList).map (.build z)
    | some z, some (.array _ e) => match szA P e with | some n => (partsA T (fun i => some (i * n, n)) ps.toList).map (.build z) | none => none
    | _, _ => none
  | .buildSlice t len ps =>
    match P.underlying t with
    | some (.slice e) =>
      match szA P e, zeroCs P e, partsSA T ps.toList with
      | some n, some z, some ps => if z.length = n ∧ n ≠ 0 ∧ len * n ≤ 65536 then some (.buildSlice e (List.flatten (List.replicate len z)) n len ps) else none
      | _, _, _ => none
    | _ => none
  | .load t x => match isAggA P t, szA P t, opdA T x with | some g, some n, some x => if g || n == 1 then some (.load g n x) else none | _, _, _ => none
  | .store t a x => match szA P t, opdA T a, opdA T x with | some n, some a, some x => some (.store n a x) | _, _, _ => none
  | .nilCheck x => (opdA T x).map .nilCheck
  | .binOp op t x y _ =>
    match opdA T x, opdA T y with
    | some a, some b =>
      match op with
      | .eql | .neq => (eqK P t (isK x || isK y)).map fun q => .bin op q a b
      | _ => some (.bin op .num a b)
    | _, _ => none
  | .unOp op _ x => (opdA T x).map (.un op)
  | .convert s d x =>
    match opdA T x, P.underlying s, P.underlying d with
    | some x, some (.int _), some (.int k) => some (.conv (.i2i k) x)
    | some x, some (.int _), some .string => some (.conv .i2s x)
    | some x, some .string, some .string => some (.conv .s2s x)
    | some x, some .string, some (.slice e) => match P.underlying e, szA P e with | some (.int .u8), some 1 => some (.conv (.s2b e) x) | _, _ => none
    | some x, some (.slice e), some .string => match P.underlying e, szA P e with | some (.int .u8), some 1 => some (.conv .b2s x) | _, _ => none
    | some x, some (.pointer e), some .unsafePointer => match szA P e with | some n => if n = 0 then none else some (.conv (.upc e n) x) | none => none
    | some x, some .unsafePointer, some (.pointer e) => match szA P e with | some n => if n = 0 then none else some (.conv (.upc e n) x) | none => none
    | _, _, _ => none
  | .makeInterface t x => match P.underlying t with | some (.interface _) => none | some _ => (opdA T x).map (.mkIface t) | none => none
  | .makeFunc (.func f) a c => match opdsA T a.toList, opdsA T c.toList with | some a, some c => some (.mkFunc f a c) | _, _ => none
  | .makeMap t r => match P.underlying t, opdO T r with | some (.map k _), some r => (keyK P k).map fun kk => .makeMap kk r | _, _ => none
  | .makeSlice t l c =>
    match P.underlying t, opdA T l, opdA T c with
    | some (.slice e), some l, some c =>
      match szA P e, bytesA P e, zeroCs P e with
      | some n, some by_, some z => if z.length = n ∧ n ≠ 0 then some (.makeSlice e n by_ z l c) else none
      | _, _, _ => none
    | _, _, _ => none
  | .slice t x lo hi mx =>
    match P.underlying t, opdA T x, opdO T lo, opdO T hi, opdO T mx with
    | some (.array n e), some x, some lo, some hi, some none => match szA P e with | some k => some (.sliceArr n k x lo hi) | none => none
    | some .string, some x, some lo, some hi, some none => some (.sliceStr x lo hi)
    | some (.slice e), some x, some lo, some hi, some mx => match szA P e with | some k => if k = 0 ∨ (mx.isSome ∧ hi.isNone) then none else some (.sliceSl k x lo hi mx) | none => none
    | _, _, _, _, _ => none
  | .fieldAddr s x f =>
    match P.underlying s, opdA T x with
    | some (.struct fs), some x => match fs[f]? with | some f => (match szA P f.type with | some n => if n = 0 then none else some (.fieldAddr f.offset x) | none => none) | none => none
    | _, _ => none
  | .field t x f =>
    match P.underlying t, opdA T x with
    | some (.struct fs), some x => match fs[f]? with | some f => (match isAggA P f.type, szA P f.type with | some g, some n => if g || n == 1 then some (.field g f.offset n x) else none | _, _ => none) | none => none
    | _, _ => none
  | .indexAddr t x i =>
    match P.underlying t, opdA T x, opdA T i with
    | some (.array n e), some x, some i => match szA P e with | some k => if k = 0 then none else some (.idxAddrA n k x i) | none => none
    | some (.slice e), some x, some i => match szA P e with | some k => if k = 0 then none else some (.idxAddrS k x i) | none => none
    | _, _, _ => none
  | .index t x i =>
    match P.underlying t, opdA T x, opdA T i with
    | some .string, some x, some i => some (.idxStr x i)
    | some (.array m e), some x, some i => (match isAggA P e, szA P e with | some g, some n => if g || n == 1 then some (.idxArr g m n x i) else none | _, _ => none)
    | _, _, _ => none
  | .lookup t x i ok =>
    match P.underlying t, opdA T x, opdA T i with
    | some (.map k e), some x, some i => match keyK P k, zeroA P e with | some kk, some z => some (.lookup kk z ok x i) | _, _ => none
    | _, _, _ => none
  | .mapUpdate t m k x =>
    match P.underlying t, opdA T m, opdA T k, opdA T x with
    | some (.map kt _), some m, some k, some x => (keyK P kt).map fun kk => .mapUpdate kk m k x
    | _, _, _, _ => none
  | .insert t m k x =>
    match P.underlying t, opdA T m, opdA T k, opdA T x with
    | some (.map kt _), some m, some k, some x => (keyK P kt).map fun kk => .mapUpdate kk m k x
    | _, _, _, _ => none
  | .range t x => match P.underlying t with | some .string => (opdA T x).map .rangeStr | _ => none
  | .next x true => (opdA T x).map .nextStr
  | .typeAssert x _ a ok =>
    match P.underlying a, opdA T x with
    | some (.interface _), _ => none
    | some _, some x => (zeroA P a).map fun z => .assertT a z ok x
    | _, _ => none
  | .extract x i => (opdA T x).map fun x => .extract x i
  | .call c =>
    match c.callee with
    | .builtin b => builtinA T b c.argTypes.toList c.args.toList
    | .value f => match opdA T f, opdsA T c.args.toList with | some f, some l => some (.callv f l) | _, _ => none
    | .invoke .. => none
  | .defer c =>
    match c.callee with
    | .value f => match opdA T f, opdsA T c.args.toList with | some f, some l => some (.deferv f l) | _, _ => none
    | _ => none
  | .panic x => (opdA T x).map .panic
  | _ => none

/-! Regions -/
inductive Cl where
  | P | L | A | X
  deriving DecidableEq, Inhabited

def AOp.cl : AOp → Cl
  | .load .. | .lookup .. | .lenMap _ | .conv .b2s _ | .conv (.upc _ _) _ | .sliceSl .. => .L
  | .alloc .. | .box .. | .buildSlice .. | .makeMap .. | .makeSlice .. | .conv (.s2b _) _ | .rangeStr _ => .A
  | .callv .. | .deferv .. | .panic _ | .recover | .store .. | .mapUpdate .. | .append .. | .copy .. | .unsafeString .. | .nextStr _ => .X
  | _ => .P

def opds : AOp → List Opd
  | .move x | .box _ x | .load _ _ x | .nilCheck x | .un _ x | .conv _ x | .mkIface _ x | .fieldAddr _ x | .field _ _ _ x | .assertT _ _ _ x | .extract x _ | .len _ x | .lenMap x | .cap x
  | .sliceData x | .rangeStr x | .nextStr x | .panic x => [x]
  | .pick a b c => [a, b, c]
  | .alloc .. | .recover => []
  | .makeMap _ x => x.toList
  | .build _ ps => ps.map (·.2.2)
  | .buildSlice _ _ _ _ ps => ps.map (·.2)
  | .store _ a b | .bin _ _ a b | .makeSlice _ _ _ _ a b | .idxAddrS _ a b | .idxAddrA _ _ a b | .idxStr a b | .idxArr _ _ _ a b | .lookup _ _ _ a b | .append _ _ _ _ _ a b | .copy _ a b | .unsafeString _ a b => [a, b]
  | .mapUpdate _ a b c => [a, b, c]
  | .mkFunc _ a c => a ++ c
  | .sliceStr x lo hi => x :: (lo.toList ++ hi.toList)
  | .sliceSl _ x lo hi mx => x :: (lo.toList ++ hi.toList ++ mx.toList)
  | .sliceArr _ _ x lo hi => x :: (lo.toList ++ hi.toList)
  | .minmax _ x l => x :: l
  | .callv f l | .deferv f l => f :: l

def operA (T : Tb) (nt : Nat) (ops : Array Oper) (o : Oper) : Option AOper :=
  match opA T o.op with
  | none => none
  | some op =>
    match (match o.dst with | none => true | some d => decide (d < nt)) with
    | false => none
    | true =>
      match o.guard with
      | none => some { dst := o.dst, guard := none, op := op }
      | some (j, b) =>
        match ops[j]? with
        | some { dst := some d, .. } => some { dst := o.dst, guard := some (d, b), op := op }
        | _ => none

def opersA (T : Tb) (nt : Nat) (ops : Array Oper) : List Oper → Option (List AOper)
  | [] => some []
  | o :: l => match operA T nt ops o, opersA T nt ops l with | some a, some r => some (a :: r) | _, _ => none

/-- the canonical order: no X as long as there is another one that is ready -/
def canonGo (n : Nat) (bef : Nat → Nat) (x : Nat → Bool) : Nat → Nat → List Nat → List Nat
  | 0, _, acc => acc.reverse
  | fuel + 1, done, acc =>
    let ready := (List.range n).filter fun i => !done.testBit i && (bef i &&& done == bef i)
    match ready.find? (fun i => !x i) with
    | some i => canonGo n bef x fuel (done ||| 2 ^ i) (i :: acc)
    | none =>
      match ready with
      | i :: _ => canonGo n bef x fuel (done ||| 2 ^ i) (i :: acc)
      | [] => acc.reverse

def writesT (o : AOper) (t : Nat) : Bool := o.dst == some t
def readsT (o : AOper) (t : Nat) : Bool :=
  (opds o.op).any (fun | .t i => i == t | _ => false) || (match o.guard with | some (d, _) => d == t | none => false)

/-- an operation in its place: its index, what is ahead of it by the edges, what stands ahead of it here -/
structure DI where
  i : Nat
  b : Nat
  m : Nat
  a : AOper
  deriving Inhabited

def mkItems (os : List AOper) (bef : Nat → Nat) : Nat → List Nat → Option (List DI)
  | _, [] => some []
  | m, i :: rest =>
    match os[i]? with
    | none => none
    | some a => match mkItems os bef (m ||| 2 ^ i) rest with | some l => some ({ i := i, b := bef i, m := m, a := a } :: l) | none => none

def AOp.isX (o : AOp) : Bool := match o.cl with | .X => true | _ => false
def AOp.isL (o : AOp) : Bool := match o.cl with | .L => true | _ => false

def touches (a b : AOper) : Bool := match a.dst with | none => false | some t => writesT b t || readsT b t

/-- what is read ahead of d though it might be read behind it -/
def reOf (before : List DI) (d : DI) : List AOper := bif d.a.op.isX then (before.filter fun e => e.a.op.isL && !d.b.testBit e.i).map (·.a) else []

/-- e is read ahead of some operation that may write, and need not be -/
def isRe (L : List (DI × Nat)) (e : DI) (q : Nat) : Bool := e.a.op.isL && L.any fun (d, p) => d.a.op.isX && Nat.blt q p && !d.b.testBit e.i

/-- what is asked of any two operations, at p and at q -/
def pairOK (d : DI) (p : Nat) (e : DI) (q : Nat) : Bool :=
  !(Nat.beq d.i e.i)
  && (!(e.b.testBit d.i) || Nat.blt p q)
  && (!(d.a.op.isX && e.a.op.isX && Nat.blt p q) || e.b.testBit d.i)
  && (!(d.a.op.isX && !e.a.op.isX && Nat.blt p q) || !(Nat.beq (e.b &&& d.m) e.b))
  && (!(touches d.a e.a) || d.b.testBit e.i || e.b.testBit d.i)

/-- nothing else writes what e has written; nothing that is not ahead of e writes what e looks at -/
def loadOK (L : List (DI × Nat)) (e : DI) (q : Nat) : Bool :=
  (match e.a.dst with | none => true | some t => !readsT e.a t) && L.all fun (d, p) => Nat.beq p q || (match d.a.dst with
    | none => true
    | some t => !(e.a.dst == some t) && (!readsT e.a t || e.b.testBit d.i))

def edgesA (o : Oper) : List Nat := (o.after.toList.filter (Region.binds .any)).map (·.on)

def maskOf (f : Nat → Nat) : List Nat → Nat
  | [] => 0
  | k :: l => f k ||| maskOf f l

def edgeOK (ops : Array Oper) (bef : Nat → Nat) (d : DI) : Bool :=
  match ops[d.i]? with
  | none => false
  | some o => !(d.b.testBit d.i) && (edgesA o).all (fun k => d.m.testBit k) && Nat.beq (d.b &&& (maskOf (fun k => 2 ^ k) (edgesA o) ||| maskOf bef (edgesA o))) d.b

def drawOK (ops : Array Oper) (bef : Nat → Nat) (L : List DI) : Bool :=
  let Z := L.zipIdx
  L.length == ops.size && (List.range ops.size).all (fun i => L.any fun d => Nat.beq d.i i)
  && L.all (edgeOK ops bef)
  && Z.all (fun (d, p) => Z.all fun (e, q) => Nat.beq p q || pairOK d p e q)
  && Z.all (fun (e, q) => !(isRe Z e q) || loadOK Z e q)

def drawItems (L : List DI) : List (AOper × List AOper) := L.zipIdx.map fun (d, p) => (d.a, reOf (L.take p) d)

def befA (ops : Array Oper) : Nat → Nat := let b := Region.before ops; fun i => b.getD i 0

def drawA (T : Tb) (nt : Nat) (ops : Array Oper) : Option (List (AOper × List AOper)) :=
  if ops.size > 200 then none else
  match opersA T nt ops ops.toList with
  | none => none
  | some os =>
    match mkItems os (befA ops) 0 (canonGo os.length (befA ops) (fun i => match os[i]? with | some a => a.op.isX | none => true) os.length 0 []) with
    | some L => if drawOK ops (befA ops) L then some (drawItems L) else none
    | none => none

def AOp.isDefer : AOp → Bool
  | .deferv .. => true
  | _ => false

/-- no deferred call, no range over a function -/
def calm : ACode → Bool
  | .reg ops => ops.all fun o => !o.op.isDefer
  | .draw ops => ops.all fun (o, _) => !o.op.isDefer
  | .seq a b | .cond _ a b => calm a && calm b
  | .block _ b | .loop b | .scope b => calm b
  | .rangeF .. => false
  | _ => true

def drawOr : Option (List (AOper × List AOper)) → ACode
  | some l => .draw l
  | none => .refuse

def codeA (T : Tb) (nt fn : Nat) : Code → Option ACode
  | .skip => some .skip
  | .region _ ops false => (opersA T nt ops ops.toList).map .reg
  | .region _ ops true => some (drawOr (drawA T nt ops))
  | .seq a b => match codeA T nt fn a, codeA T nt fn b with | some a, some b => some (.seq a b) | _, _ => none
  | .cond c a b => match opdA T c, codeA T nt fn a, codeA T nt fn b with | some c, some a, some b => some (.cond c a b) | _, _, _ => none
  | .block id b => (codeA T nt fn b).map (.block id)
  | .loop b => (codeA T nt fn b).map .loop
  | .rangeFunc f ps a b =>
    match opdA T f, codeA T nt fn a, codeA T nt fn b with
    | some f, some a, some b => if ps.toList.all (fun p => decide (p < nt)) && calm a && calm b then some (.rangeF f ps.toList nt fn a b) else none
    | _, _, _ => none
  | .exit id => some (.exit id)
  | .scope b => (codeA T nt fn b).map .scope
  | .label _ => some .skip
  | .goto _ => none
  | .ret => some .ret
  | .refuse _ => some .refuse

def rvA (P : Program) : ResultVar → Option ARV
  | .tmp t => some (.tmp t)
  | .cell a t => match isAggA P t, szA P t with | some g, some n => if g || n == 1 then some (.cell a g n) else none | _, _ => none

def rvsA (P : Program) : List ResultVar → Option (List ARV)
  | [] => some []
  | r :: l => match rvA P r, rvsA P l with | some a, some r => some (a :: r) | _, _ => none

def hasRec : ACode → Bool
  | .reg ops => ops.any fun o => match o.op with | .recover => true | _ => false
  | .draw ops => ops.any fun (o, _) => match o.op with | .recover => true | _ => false
  | .seq a b | .cond _ a b => hasRec a || hasRec b
  | .block _ b | .loop b | .scope b => hasRec b
  | .rangeF _ _ _ _ a b => hasRec a || hasRec b
  | _ => false

def intrA (P : Program) (fn : Func) : Option Intr :=
  match fn.name with
  | "internal/abi.NoEscape" => some .noEscape
  | "internal/bytealg.MakeNoZero" =>
    match fn.resultTypes.toList with
    | [t] => match P.underlying t with | some (.slice e) => some (.makeNoZero e) | _ => none
    | _ => none
  | "internal/bytealg.IndexByte" => some .indexByte
  | "internal/bytealg.IndexByteString" => some .indexByteString
  | "internal/bytealg.CountString" => some .countString
  | _ => none

def funA (T : Tb) (f : FuncId) (fn : Func) : Option AFun :=
  match fn.body with
  | none => (intrA T.P fn).map .intr
  | some c =>
    match codeA T fn.ntmps f c, rvsA T.P fn.results.toList with
    | some c, some rs => some (.body fn.ntmps rs (hasRec c) c)
    | _, _ => none

end Go.AM

/- HOW THE ABSTRACT MACHINE's VALUES AND MEMORY STAND FOR THE MODEL's. -/
namespace Go.AM

/-- where abstract blocks lie: the model's block, and how many cells it has -/
abbrev Pl := Nat → Option (Nat × Nat)
/-- cells that never change -/
abbrev Stab := Nat → Nat → Option Value

mutual
def VR (st : Stab) (ρ : Pl) : AV → Value → Prop
  | .bot, _ => True
  | .bool b, v => v = .bool b
  | .int k n, v => v = .int k n
  | .str s, v => v = .string ⟨s.toArray⟩
  | .nilptr, v => v = .pointer none
  | .ptr b o, v => ∃ B m, ρ b = some (B, m) ∧ v = .pointer (some ⟨B, o, none⟩)
  | .pptr cs o, v => ∃ B d, v = .pointer (some ⟨B, d + o, none⟩) ∧ PC st ρ B d cs
  | .nilslice, v => v = .slice none 0 0
  | .slice b o n c e, v => ∃ B m k, ρ b = some (B, m) ∧ v = .slice (some ⟨B, o, none⟩) n k ∧ n ≤ k ∧ (match c with | some c => k = c | none => o + k * e = m ∧ k < 9223372036854775808)
  | .pslice cs o n c, v => ∃ B d k, v = .slice (some ⟨B, d + o, none⟩) n k ∧ n ≤ k ∧ (match c with | some c => k = c | none => True) ∧ PC st ρ B d cs
  | .eslice, v => ∃ a k, v = .slice (some a) 0 k
  | .nilmap, v => v = .map none
  | .map b, v => ∃ B m, ρ b = some (B, m) ∧ v = .map (some B)
  | .func f a c, v => ∃ xs ys, v = .func (.func f) xs.toArray ys.toArray ∧ VRs st ρ a xs ∧ VRs st ρ c ys
  | .yield l, v => ∃ B m, ρ l = some (B, m) ∧ v = .func (.yield B) #[] #[]
  | .nilfunc, v => v = .nilFunc
  | .iface t a, v => ∃ x, v = .iface t x ∧ VR st ρ a x
  | .niliface, v => v = .nilIface
  | .agg cs, v => ∃ xs, v = .agg xs.toArray ∧ VRs st ρ cs xs
  | .tuple cs, v => ∃ xs, v = .tuple xs.toArray ∧ VRs st ρ cs xs
def VRs (st : Stab) (ρ : Pl) : List AV → List Value → Prop
  | [], xs => xs = []
  | a :: l, xs => ∃ x r, xs = x :: r ∧ VR st ρ a x ∧ VRs st ρ l r
def PC (st : Stab) (ρ : Pl) (B d : Nat) : List AV → Prop
  | [] => True
  | a :: l => (∃ x, st B d = some x ∧ VR st ρ a x) ∧ PC st ρ B (d + 1) l
end

def Pl.le (ρ ρ' : Pl) : Prop := ∀ b x, ρ b = some x → ρ' b = some x

theorem Pl.le_refl (ρ : Pl) : Pl.le ρ ρ := fun _ _ h => h
theorem Pl.le_trans {a b c : Pl} (h : Pl.le a b) (h' : Pl.le b c) : Pl.le a c := fun x y hx => h' x y (h x y hx)

section
variable {st : Stab} {ρ ρ' : Pl}

mutual
theorem VR.mono (h : Pl.le ρ ρ') : ∀ (a : AV) (v : Value), VR st ρ a v → VR st ρ' a v
  | .bot, _, _ => by simp only [VR]
  | .bool b, v, hv => by simpa only [VR] using hv
  | .int k n, v, hv => by simpa only [VR] using hv
  | .str s, v, hv => by simpa only [VR] using hv
  | .nilptr, v, hv => by simpa only [VR] using hv
  | .ptr b o, v, hv => by simp only [VR] at hv ⊢; obtain ⟨B, m, h1, h2⟩ := hv; exact ⟨B, m, h _ _ h1, h2⟩
  | .pptr cs o, v, hv => by simp only [VR] at hv ⊢; obtain ⟨B, d, h1, h2⟩ := hv; exact ⟨B, d, h1, PC.mono h B d cs h2⟩
  | .nilslice, v, hv => by simpa only [VR] using hv
  | .slice b o n c e, v, hv => by simp only [VR] at hv ⊢; obtain ⟨B, m, k, h1, h2⟩ := hv; exact ⟨B, m, k, h _ _ h1, h2⟩
  | .pslice cs o n c, v, hv => by simp only [VR] at hv ⊢; obtain ⟨B, d, k, h1, h2, h3, h4⟩ := hv; exact ⟨B, d, k, h1, h2, h3, PC.mono h B d cs h4⟩
  | .eslice, v, hv => by simpa only [VR] using hv
  | .nilmap, v, hv => by simpa only [VR] using hv
  | .map b, v, hv => by simp only [VR] at hv ⊢; obtain ⟨B, m, h1, h2⟩ := hv; exact ⟨B, m, h _ _ h1, h2⟩
  | .func f a c, v, hv => by simp only [VR] at hv ⊢; obtain ⟨xs, ys, h1, h2, h3⟩ := hv; exact ⟨xs, ys, h1, VRs.mono h a xs h2, VRs.mono h c ys h3⟩
  | .yield l, v, hv => by simp only [VR] at hv ⊢; obtain ⟨B, m, h1, h2⟩ := hv; exact ⟨B, m, h _ _ h1, h2⟩
  | .nilfunc, v, hv => by simpa only [VR] using hv
  | .iface t a, v, hv => by simp only [VR] at hv ⊢; obtain ⟨x, h1, h2⟩ := hv; exact ⟨x, h1, VR.mono h a x h2⟩
  | .niliface, v, hv => by simpa only [VR] using hv
  | .agg cs, v, hv => by simp only [VR] at hv ⊢; obtain ⟨x, h1, h2⟩ := hv; exact ⟨x, h1, VRs.mono h cs x h2⟩
  | .tuple cs, v, hv => by simp only [VR] at hv ⊢; obtain ⟨x, h1, h2⟩ := hv; exact ⟨x, h1, VRs.mono h cs x h2⟩
theorem VRs.mono (h : Pl.le ρ ρ') : ∀ (l : List AV) (xs : List Value), VRs st ρ l xs → VRs st ρ' l xs
  | [], xs, hv => by simpa only [VRs] using hv
  | a :: l, xs, hv => by simp only [VRs] at hv ⊢; obtain ⟨x, r, h1, h2, h3⟩ := hv; exact ⟨x, r, h1, VR.mono h a x h2, VRs.mono h l r h3⟩
theorem PC.mono (h : Pl.le ρ ρ') : ∀ (B d : Nat) (l : List AV), PC st ρ B d l → PC st ρ' B d l
  | B, d, [], _ => by simp only [PC]
  | B, d, a :: l, hv => by simp only [PC] at hv ⊢; obtain ⟨⟨x, h1, h2⟩, h3⟩ := hv; exact ⟨⟨x, h1, VR.mono h a x h2⟩, PC.mono h B (d + 1) l h3⟩
end

theorem VRs.length : ∀ {l : List AV} {xs : List Value}, VRs st ρ l xs → xs.length = l.length
  | [], xs, h => by simp only [VRs] at h; simp [h]
  | a :: l, xs, h => by simp only [VRs] at h; obtain ⟨x, r, rfl, _, h3⟩ := h; simp [VRs.length h3]

theorem VRs.get : ∀ {l : List AV} {xs : List Value} {i : Nat} {a : AV}, VRs st ρ l xs → l[i]? = some a → ∃ x, xs[i]? = some x ∧ VR st ρ a x
  | [], _, i, a, _, hi => by simp at hi
  | b :: l, xs, 0, a, h, hi => by simp only [VRs] at h; obtain ⟨x, r, rfl, h2, _⟩ := h; simp at hi; subst hi; exact ⟨x, by simp, h2⟩
  | b :: l, xs, i + 1, a, h, hi => by simp only [VRs] at h; obtain ⟨x, r, rfl, _, h3⟩ := h; simp at hi; obtain ⟨y, hy, hv⟩ := VRs.get h3 hi; exact ⟨y, by simpa using hy, hv⟩

theorem VRs.of_get : ∀ {l : List AV} {xs : List Value}, xs.length = l.length → (∀ (i : Nat) (a : AV), l[i]? = some a → ∃ x, xs[i]? = some x ∧ VR st ρ a x) → VRs st ρ l xs
  | [], xs, hl, _ => by simp only [VRs]; simpa using hl
  | a :: l, [], hl, _ => by simp at hl
  | a :: l, x :: xs, hl, h => by
    simp only [VRs]
    refine ⟨x, xs, rfl, ?_, VRs.of_get (by simpa using hl) (fun i b hb => ?_)⟩
    · obtain ⟨y, hy, hv⟩ := h 0 a rfl; simp at hy; subst hy; exact hv
    · obtain ⟨y, hy, hv⟩ := h (i + 1) b (by simpa using hb); exact ⟨y, by simpa using hy, hv⟩

theorem VRs.append : ∀ {l l' : List AV} {xs xs' : List Value}, VRs st ρ l xs → VRs st ρ l' xs' → VRs st ρ (l ++ l') (xs ++ xs')
  | [], l', xs, xs', h, h' => by simp only [VRs] at h; subst h; simpa using h'
  | a :: l, l', xs, xs', h, h' => by
    simp only [VRs] at h; obtain ⟨x, r, rfl, h2, h3⟩ := h
    simp only [List.cons_append, VRs]; exact ⟨x, r ++ xs', rfl, h2, VRs.append h3 h'⟩

theorem PC.get : ∀ {l : List AV} {B d i : Nat} {a : AV}, PC st ρ B d l → l[i]? = some a → ∃ x, st B (d + i) = some x ∧ VR st ρ a x
  | [], _, _, i, a, _, hi => by simp at hi
  | b :: l, B, d, 0, a, h, hi => by simp only [PC] at h; simp at hi; subst hi; exact h.1
  | b :: l, B, d, i + 1, a, h, hi => by
    simp only [PC] at h; simp at hi
    obtain ⟨x, hx, hv⟩ := PC.get h.2 hi
    exact ⟨x, by rw [← hx]; congr 1; omega, hv⟩

/-! Cells -/
theorem VR.oneCell {a : AV} {v : Value} (h : VR st ρ a v) (hc : a.isCell = true) : v.oneCell' = true := by
  cases a <;> simp only [AV.isCell, Bool.false_eq_true] at hc <;> simp only [VR] at h
  all_goals first
    | (subst h; rfl)
    | (obtain ⟨_, _, _, rfl⟩ := h; rfl)
    | (obtain ⟨_, _, rfl, _⟩ := h; rfl)
    | (obtain ⟨_, _, _, _, rfl, _⟩ := h; rfl)
    | (obtain ⟨_, _, _, rfl, _⟩ := h; rfl)
    | (obtain ⟨_, _, rfl⟩ := h; rfl)
    | (obtain ⟨_, rfl, _⟩ := h; rfl)

theorem VR.cells {a : AV} {v : Value} (h : VR st ρ a v) (hb : a ≠ .bot) : VRs st ρ a.cells v.cells.toList := by
  cases a <;> simp only [VR, ne_eq, not_true_eq_false, reduceCtorEq, not_false_eq_true] at h hb <;> simp only [AV.cells]
  case agg cs => obtain ⟨xs, rfl, h2⟩ := h; simpa [Value.cells] using h2
  all_goals
    simp only [VRs]
    refine ⟨v, [], ?_, ?_, rfl⟩
  all_goals first
    | (simp only [VR]; exact h)
    | (subst h; rfl)
    | (obtain ⟨_, _, _, rfl⟩ := h; rfl)
    | (obtain ⟨_, _, rfl, _⟩ := h; rfl)
    | (obtain ⟨_, _, _, _, rfl, _⟩ := h; rfl)
    | (obtain ⟨_, _, _, rfl, _⟩ := h; rfl)
    | (obtain ⟨_, _, rfl⟩ := h; rfl)
    | (obtain ⟨_, rfl, _⟩ := h; rfl)
end

end Go.AM

/- THE ABSTRACT MEMORY STANDS FOR THE MODEL's: the relation, and what a new block and a write do to it. -/
namespace Go.AM

theorem Heap.get_set {h : Heap} {i j : Nat} {o : AObj} (hi : 0 ≤ i) (hj : 0 ≤ j) : (h.set i o).get j = if i = j then some o else h.get j := by
  have _ := hi; have _ := hj
  exact Tr.get_set _ _ _ _

theorem Heap.find_some {h : Heap} {b : Nat} {o : AObj} : h.find b = some o ↔ b < h.next ∧ h.get b = some o := by
  unfold Heap.find
  cases hb : Nat.blt b h.next with
  | false =>
    simp only [cond_false, reduceCtorEq, false_iff]
    rintro ⟨h1, _⟩
    rw [Nat.blt_eq.mpr h1] at hb; cases hb
  | true =>
    simp only [cond_true]
    exact ⟨fun h1 => ⟨Nat.blt_eq.mp hb, h1⟩, fun h1 => h1.2⟩

theorem Heap.find_of {h : Heap} {b : Nat} {o : AObj} (h1 : b < h.next) (h2 : h.get b = some o) : h.find b = some o := Heap.find_some.2 ⟨h1, h2⟩

theorem Heap.alloc_eq {h h' : Heap} {o : AObj} {b : Nat} (ha : h.alloc o = some (b, h')) :
    b = h.next ∧ h'.next = h.next + 1 ∧ 0 ≤ h.next ∧ (∀ j, 0 ≤ j → h'.get j = if h.next = j then some o else h.get j) := by
  simp only [Heap.alloc, Option.some.injEq, Prod.mk.injEq] at ha
  obtain ⟨rfl, rfl⟩ := ha
  exact ⟨rfl, rfl, Nat.zero_le _, fun j _ => Tr.get_set _ _ _ _⟩

/-! Objects -/
def TR (st : Stab) (ρ : Pl) (t : Tm) (tmps : Array Value) : Prop := ∀ i, VR st ρ (getT t i) (tmps.getD i undef)

theorem TR.mono {st : Stab} {ρ ρ' : Pl} {t : Tm} {tmps : Array Value} (h : TR st ρ t tmps) (hle : Pl.le ρ ρ') : TR st ρ' t tmps := fun i => VR.mono hle _ _ (h i)

def Jump.code : Jump → Code
  | .ret => .ret
  | .exit id => .exit id

def LSt.of : LSt → LoopState
  | .ready => .ready
  | .busy => .busy
  | .done => .done
  | .exhausted => .exhausted

structure LR (T : Tb) (st : Stab) (ρ : Pl) (r : LRec) (L : Loop) : Prop where
  state : L.state = r.st.of
  pending : L.pending = r.pending.map Jump.code
  tmps : TR st ρ r.t L.tmps
  params : L.params.toList = r.params
  room : r.nt ≤ L.tmps.size
  pok : ∀ p ∈ r.params, p < r.nt
  assign : codeA T r.nt r.fn L.assign = some r.assign
  body : codeA T r.nt r.fn L.body = some r.body
  still : calm r.assign = true ∧ calm r.body = true

def ER (st : Stab) (ρ : Pl) (kk : KeyK) : List (AV × AV) → List MapEntry → Prop
  | [], E => E = []
  | (k, v) :: l, E => ∃ e r, E = e :: r ∧ VR st ρ k e.key ∧ keyOK kk k = true ∧ VR st ρ v e.val ∧ ER st ρ kk l r

theorem ER.mono {st : Stab} {ρ ρ' : Pl} {kk : KeyK} (hle : Pl.le ρ ρ') : ∀ {l : List (AV × AV)} {E : List MapEntry}, ER st ρ kk l E → ER st ρ' kk l E
  | [], _, h => h
  | (_, _) :: _, _, h => by
    obtain ⟨e, r, rfl, h1, hk, h2, h3⟩ := h
    exact ⟨e, r, rfl, VR.mono hle _ _ h1, hk, VR.mono hle _ _ h2, ER.mono hle h3⟩

/-- cells of the model that stand for abstract ones -/
def CR (st : Stab) (ρ : Pl) (cs : List AV) (xs : List Value) : Prop := ∀ (i : Nat) (a : AV), cs[i]? = some a → ∃ x, xs[i]? = some x ∧ VR st ρ a x

theorem CR.mono {st : Stab} {ρ ρ' : Pl} {cs : List AV} {xs : List Value} (h : CR st ρ cs xs) (hle : Pl.le ρ ρ') : CR st ρ' cs xs :=
  fun i a ha => let ⟨x, hx, hv⟩ := h i a ha; ⟨x, hx, VR.mono hle _ _ hv⟩

theorem CR.length {st : Stab} {ρ : Pl} {cs : List AV} {xs : List Value} (h : CR st ρ cs xs) : cs.length ≤ xs.length := by
  cases hn : cs.length with
  | zero => omega
  | succ n =>
    have hl : n < cs.length := by omega
    obtain ⟨x, hx, _⟩ := h n cs[n] (List.getElem?_eq_getElem hl)
    have := (List.getElem?_eq_some_iff.1 hx).1
    omega

/-- what is frozen: frz = 0: nothing, or something behind all m cells; frz = f + 1: nothing from f on -/
def FC (frz lo hi m : Nat) : Prop := match frz with | 0 => lo = hi ∨ m ≤ lo | f + 1 => lo = hi ∨ hi ≤ f

theorem FC.use {frz lo hi m i : Nat} (h : FC frz lo hi m) (h1 : frz ≤ i + 1) (h2 : i < m) : ¬(lo ≤ i ∧ i < hi) := by
  cases frz with
  | zero => simp only [FC] at h; omega
  | succ f => simp only [FC] at h; omega

def OR (T : Tb) (st : Stab) (ρ : Pl) : AObj → Obj → Nat → Prop
  | .cells ty cs own frz _, o, m => ∃ xs lo hi, o = .cells xs.toArray ty (lo, hi) ∧ xs.length = m ∧ CR st ρ cs xs ∧ (own = true → FC frz lo hi m)
  | .map kk es, o, _ => ∃ E ck, o = .map E.toArray ck ∧ ER st ρ kk es E
  | .iter s p, o, _ => o = .stringIter ⟨s.toArray⟩ p
  | .loop r, o, _ => ∃ L, o = .loop L ∧ LR T st ρ r L
  | .dead, _, _ => True

theorem OR.mono {T : Tb} {st : Stab} {ρ ρ' : Pl} (hle : Pl.le ρ ρ') : ∀ {ao : AObj} {o : Obj} {m : Nat}, OR T st ρ ao o m → OR T st ρ' ao o m
  | .cells .., _, _, h => by obtain ⟨xs, lo, hi, h1, h2, h3, h4⟩ := h; exact ⟨xs, lo, hi, h1, h2, h3.mono hle, h4⟩
  | .map _ _, _, _, h => by obtain ⟨E, ck, h1, h2⟩ := h; exact ⟨E, ck, h1, h2.mono hle⟩
  | .iter _ _, _, _, h => h
  | .loop _, _, _, h => by obtain ⟨L, h1, h2⟩ := h; exact ⟨L, h1, { h2 with tmps := h2.tmps.mono hle }⟩
  | .dead, _, _, _ => trivial

def AObj.own : AObj → Bool
  | .cells _ _ own _ _ => own
  | .dead => false
  | _ => true

def AObj.anc : AObj → List (Nat × Nat)
  | .cells _ _ _ _ anc => anc
  | _ => []

/-- what another abstract block at the same place may be -/
def Shares (anc : List (Nat × Nat)) (b2 : Nat) (o2 : Option AObj) : Prop :=
  o2 = some .dead ∨ ∃ ty cs frz anc2 n, o2 = some (.cells ty cs false frz anc2) ∧ (b2, n) ∈ anc ∧ cs.length ≤ n

structure Cx where
  T : Tb
  st : Stab
  N0 : Nat
  /-- where the present activation began -/
  base : Nat
  /-- the world that was there -/
  w0 : World

structure Rel (C : Cx) (ρ : Pl) (h : Heap) (w : World) : Prop where
  room : 0 ≤ h.next
  dom : ∀ b B m, ρ b = some (B, m) → b < h.next ∧ C.N0 ≤ B ∧ ∃ ao o, h.get b = some ao ∧ w.heap[B]? = some o ∧ OR C.T C.st ρ ao o m
  inj : ∀ b1 b2 B m1 m2 o1, ρ b1 = some (B, m1) → ρ b2 = some (B, m2) → b1 ≠ b2 → h.get b1 = some o1 → o1.own = true → Shares o1.anc b2 (h.get b2)
  ancs : ∀ b B m o, ρ b = some (B, m) → h.get b = some o → ∀ a n, (a, n) ∈ o.anc → a ≠ b ∧ ∃ x, ρ a = some x
  low : ∀ B d x, C.st B d = some x → B < C.N0 ∧ w.cell? ⟨B, d, none⟩ = some x
  base : C.N0 ≤ w.heap.size
  io : w.os = C.w0.os ∧ w.output = C.w0.output ∧ ∀ B, B < C.N0 → w.heap[B]? = C.w0.heap[B]?

structure Post (C : Cx) (ρ : Pl) (h : Heap) (w : World) (ρ' : Pl) (h' : Heap) (w' : World) : Prop where
  le : Pl.le ρ ρ'
  rel : Rel C ρ' h' w'
  size : w.heap.size ≤ w'.heap.size
  ext : ∀ B, B < w.heap.size → (∀ b m, ρ b ≠ some (B, m)) → w'.heap[B]? = w.heap[B]?
  new : ∀ b B m, ρ' b = some (B, m) → ρ b = none → w.heap.size ≤ B ∨ ∃ b0 m0, ρ b0 = some (B, m0)
  next : h.next ≤ h'.next
  old : ∀ b, b < h.next → ρ b = none → ρ' b = none ∧ h'.get b = h.get b

theorem Post.refl {C : Cx} {ρ : Pl} {h : Heap} {w : World} (hr : Rel C ρ h w) : Post C ρ h w ρ h w :=
  ⟨Pl.le_refl _, hr, Nat.le_refl _, fun _ _ _ => rfl, (fun b B m h1 h2 => by rw [h1] at h2; cases h2), Nat.le_refl _, fun _ _ h => ⟨h, rfl⟩⟩

theorem Post.image {C : Cx} {ρ ρ' : Pl} {h h' : Heap} {w w' : World} (p : Post C ρ h w ρ' h' w') {B : Nat} (hB : B < w.heap.size) (hn : ∀ b m, ρ b ≠ some (B, m)) :
    ∀ b m, ρ' b ≠ some (B, m) := by
  intro b m hb
  cases hρ : ρ b with
  | some x => have := p.le b x hρ; rw [hb] at this; cases this; exact hn b m hρ
  | none =>
    rcases p.new b B m hb hρ with h1 | ⟨b0, m0, h1⟩
    · omega
    · exact hn _ _ h1

theorem Post.trans {C : Cx} {ρ ρ' ρ'' : Pl} {h h' h'' : Heap} {w w' w'' : World} (p : Post C ρ h w ρ' h' w') (q : Post C ρ' h' w' ρ'' h'' w'') : Post C ρ h w ρ'' h'' w'' where
  le := Pl.le_trans p.le q.le
  rel := q.rel
  size := Nat.le_trans p.size q.size
  ext := fun B hB hn => (q.ext B (Nat.lt_of_lt_of_le hB p.size) (p.image hB hn)).trans (p.ext B hB hn)
  new := fun b B m hb hn => by
    cases hρ : ρ' b with
    | some x => have := q.le b x hρ; rw [hb] at this; cases this; exact p.new b B m hρ hn
    | none =>
      rcases q.new b B m hb hρ with h1 | ⟨b0, m0, h1⟩
      · exact .inl (Nat.le_trans p.size h1)
      · cases hρ0 : ρ b0 with
        | some x => have := p.le b0 x hρ0; rw [h1] at this; cases this; exact .inr ⟨b0, m0, hρ0⟩
        | none => exact p.new b0 B m0 h1 hρ0
  next := Nat.le_trans p.next q.next
  old := fun b hb hn => by
    obtain ⟨h1, h2⟩ := p.old b hb hn
    obtain ⟨h3, h4⟩ := q.old b (Nat.lt_of_lt_of_le hb p.next) h1
    exact ⟨h3, h4.trans h2⟩

/-! A new block -/
def Pl.upd (ρ : Pl) (b : Nat) (x : Nat × Nat) : Pl := fun j => if j = b then some x else ρ j

theorem Post.alloc {C : Cx} {ρ : Pl} {h h' : Heap} {w : World} {ao : AObj} {o : Obj} {m b : Nat} (hr : Rel C ρ h w) (ha : h.alloc ao = some (b, h'))
    (ho : OR C.T C.st ρ ao o m) (hanc : ∀ a n, (a, n) ∈ ao.anc → ∃ x, ρ a = some x) :
    Post C ρ h w (ρ.upd b (w.heap.size, m)) h' (w.alloc o) ∧ ρ.upd b (w.heap.size, m) b = some (w.heap.size, m) := by
  obtain ⟨rfl, hn, hlt, hget⟩ := Heap.alloc_eq ha
  have hnone : ρ h.next = none := by
    cases hx : ρ h.next with
    | none => rfl
    | some x => have := (hr.dom _ x.1 x.2 hx).1; omega
  have hle : Pl.le ρ (ρ.upd h.next (w.heap.size, m)) := fun b x hb => by
    simp only [Pl.upd]
    split
    · rename_i e; rw [e, hnone] at hb; cases hb
    · exact hb
  have hold : ∀ b, b < h.next → h'.get b = h.get b := fun b hb => by
    rw [hget b (by omega)]; rw [if_neg (by omega)]
  have hnew : h'.get h.next = some ao := by rw [hget _ (by omega)]; simp
  have hwo : ∀ B, B < w.heap.size → (w.alloc o).heap[B]? = w.heap[B]? := fun B hB => by
    simp only [World.alloc, Array.getElem?_push]; rw [if_neg (by omega)]
  have hwn : (w.alloc o).heap[w.heap.size]? = some o := by simp only [World.alloc, Array.getElem?_push, if_true]
  have hBlt : ∀ b B m, ρ b = some (B, m) → B < w.heap.size := fun b B m hb => by
    obtain ⟨_, _, _, o', _, h2, _⟩ := hr.dom b B m hb
    exact (Array.getElem?_eq_some_iff.1 h2).1
  refine ⟨⟨hle, ?_, by simp, fun B hB _ => hwo B hB, ?_, by omega, ?_⟩, by simp [Pl.upd]⟩
  · refine ⟨by omega, ?_, ?_, ?_, ?_, by simp; have := hr.base; omega, ⟨hr.io.1, hr.io.2.1, fun B hB => (hwo B (by have := hr.base; omega)).trans (hr.io.2.2 B hB)⟩⟩
    · intro b B m' hb
      simp only [Pl.upd] at hb
      split at hb
      · rename_i e; subst e
        cases hb
        exact ⟨by omega, hr.base, ao, o, hnew, hwn, ho.mono hle⟩
      · obtain ⟨h1, h2, ao', o', h3, h4, h5⟩ := hr.dom b B m' hb
        exact ⟨by omega, h2, ao', o', by rw [hold b h1]; exact h3, by rw [hwo B (hBlt _ _ _ hb)]; exact h4, h5.mono hle⟩
    · intro b1 b2 B m1 m2 o1 hb1 hb2 hne hg hown
      simp only [Pl.upd] at hb1 hb2
      split at hb1
      · rename_i e1
        split at hb2
        · rename_i e2; exact absurd (e1.trans e2.symm) hne
        · cases hb1; have := hBlt _ _ _ hb2; omega
      · split at hb2
        · cases hb2; have := hBlt _ _ _ hb1; omega
        · have l1 := (hr.dom _ _ _ hb1).1
          have l2 := (hr.dom _ _ _ hb2).1
          rw [hold b1 l1] at hg
          rw [hold b2 l2]
          exact hr.inj b1 b2 B m1 m2 o1 hb1 hb2 hne hg hown
    · intro b B m' o' hb hg a n hm
      simp only [Pl.upd] at hb
      split at hb
      · rename_i e; subst e; rw [hnew] at hg; cases hg; obtain ⟨x, hx⟩ := hanc a n hm; exact ⟨(fun e => by rw [e, hnone] at hx; cases hx), x, hle a x hx⟩
      · have l1 := (hr.dom _ _ _ hb).1
        rw [hold b l1] at hg
        obtain ⟨hne, x, hx⟩ := hr.ancs b B m' o' hb hg a n hm; exact ⟨hne, x, hle a x hx⟩
    · intro B d x hx
      obtain ⟨h1, h2⟩ := hr.low B d x hx
      exact ⟨h1, by rw [World.cell?_alloc_lt _ _ _ (show B < w.heap.size by have := hr.base; omega)]; exact h2⟩
  · intro b B m' hb hn'
    simp only [Pl.upd] at hb
    split at hb
    · cases hb; exact .inl (Nat.le_refl _)
    · rw [hn'] at hb; cases hb
  · intro b hb hn'
    refine ⟨?_, hold b hb⟩
    simp only [Pl.upd]; rw [if_neg (by omega)]; exact hn'

theorem Rel.blt {C : Cx} {ρ : Pl} {h : Heap} {w : World} (hr : Rel C ρ h w) {b B m : Nat} (hb : ρ b = some (B, m)) : B < w.heap.size := by
  obtain ⟨_, _, _, o', _, h2, _⟩ := hr.dom b B m hb
  exact (Array.getElem?_eq_some_iff.1 h2).1

/-! What is written -/
theorem Post.put {C : Cx} {ρ : Pl} {h h' : Heap} {w : World} {b B m : Nat} {ao ao' : AObj} {o' : Obj} (hr : Rel C ρ h w) (hb : ρ b = some (B, m)) (hg : h.get b = some ao) (hown : ao.own = true)
    (hn : h'.next = h.next) (hget : ∀ j, 0 ≤ j → j ≠ b → h'.get j = h.get j ∨ (h'.get j = some .dead ∧ ∃ n, (j, n) ∈ ao.anc)) (hgb : h'.get b = some ao')
    (hanc : ao'.anc = ao.anc) (ho' : OR C.T C.st ρ ao' o' m)
    (hsh : ∀ b2 m2 ty cs frz anc n o, b2 ≠ b → ρ b2 = some (B, m2) → h'.get b2 = some (.cells ty cs false frz anc) → (b2, n) ∈ ao.anc → cs.length ≤ n → w.heap[B]? = some o → OR C.T C.st ρ (.cells ty cs false frz anc) o m2 → OR C.T C.st ρ (.cells ty cs false frz anc) o' m2) :
    Post C ρ h w ρ h' (w.putObj B o') := by
  have hB := hr.blt hb
  have hbn := (hr.dom _ _ _ hb).2.1
  have hr' : Rel C ρ h' (w.putObj B o') := by
    refine ⟨by rw [hn]; exact hr.room, ?_, ?_, ?_, ?_, by simpa using hr.base, ⟨hr.io.1, hr.io.2.1, fun B' hB' => (World.putObj_heap_other (show B' ≠ B by omega)).trans (hr.io.2.2 B' hB')⟩⟩
    · intro j B' m' hj
      obtain ⟨h1, h2, aoj, oj, h3, h4, h5⟩ := hr.dom j B' m' hj
      by_cases e : j = b
      · subst e; rw [hb] at hj; cases hj
        exact ⟨by rw [hn]; exact h1, h2, ao', o', hgb, World.putObj_heap_same hB, ho'⟩
      · by_cases eB : B' = B
        · subst eB
          rcases hget j (by have := hr.room; omega) e with hk | ⟨hk, _⟩
          · have hS := hr.inj b j B' m m' ao hb hj (fun x => e x.symm) hg hown
            rcases hS with hd | ⟨ty, cs, frz, anc2, n, hc, hin, hle⟩
            · exact ⟨by rw [hn]; exact h1, h2, .dead, o', by rw [hk, hd], World.putObj_heap_same hB, trivial⟩
            · have hc' : h'.get j = some (.cells ty cs false frz anc2) := by rw [hk, hc]
              rw [hc] at h3; cases h3
              exact ⟨by rw [hn]; exact h1, h2, _, o', hc', World.putObj_heap_same hB, hsh j m' ty cs frz anc2 n oj e hj hc' hin hle h4 h5⟩
          · exact ⟨by rw [hn]; exact h1, h2, .dead, o', hk, World.putObj_heap_same hB, trivial⟩
        · rcases hget j (by have := hr.room; omega) e with hk | ⟨hk, _⟩
          · exact ⟨by rw [hn]; exact h1, h2, aoj, oj, by rw [hk]; exact h3, by rw [World.putObj_heap_other eB]; exact h4, h5⟩
          · exact ⟨by rw [hn]; exact h1, h2, .dead, oj, hk, by rw [World.putObj_heap_other eB]; exact h4, trivial⟩
    · intro b1 b2 B' m1 m2 o1 hb1 hb2 hne hg1 ho1
      have l1 := (hr.dom _ _ _ hb1).1
      have l2 := (hr.dom _ _ _ hb2).1
      have hroom := hr.room
      have toS : ∀ anc, Shares anc b2 (h.get b2) → b2 ≠ b → Shares anc b2 (h'.get b2) := fun anc hS e2 => by
        rcases hget b2 (by omega) e2 with hk | ⟨hk, _⟩
        · rw [hk]; exact hS
        · exact .inl hk
      by_cases e1 : b1 = b
      · subst e1
        rw [hgb] at hg1; cases hg1
        rw [hanc]
        exact toS _ (hr.inj b1 b2 B' m1 m2 ao hb1 hb2 hne hg hown) (fun x => hne x.symm)
      · have hg1' : h.get b1 = some o1 := by
          rcases hget b1 (by omega) e1 with hk | ⟨hk, _⟩
          · rw [← hk]; exact hg1
          · rw [hk] at hg1; cases hg1; cases ho1
        have hS := hr.inj b1 b2 B' m1 m2 o1 hb1 hb2 hne hg1' ho1
        by_cases e2 : b2 = b
        · subst e2
          rw [hg] at hS
          rcases hS with hd | ⟨ty, cs, frz, anc2, n, hc, _⟩
          · cases hd; cases hown
          · cases hc; cases hown
        · exact toS _ hS e2
    · intro j B' m' oj hj hgj a n hin
      by_cases e : j = b
      · subst e; rw [hgb] at hgj; cases hgj; rw [hanc] at hin; exact hr.ancs j B m ao hb hg a n hin
      · rcases hget j (by have := (hr.dom _ _ _ hj).1; have := hr.room; omega) e with hk | ⟨hk, _⟩
        · rw [hk] at hgj; exact hr.ancs j B' m' oj hj hgj a n hin
        · rw [hk] at hgj; cases hgj; cases hin
    · intro B' d x hx
      obtain ⟨h1, h2⟩ := hr.low B' d x hx
      refine ⟨h1, ?_⟩
      rw [← h2]
      simp only [World.cell?]
      rw [World.putObj_heap_other (show B' ≠ B by omega)]
  refine ⟨Pl.le_refl _, hr', by simp, fun B' _ hno => World.putObj_heap_other (fun e => hno b m (e ▸ hb)), fun b B m h1 h2 => (by rw [h1] at h2; cases h2), by omega, fun j hj hnone => ⟨hnone, ?_⟩⟩
  rcases hget j (by have := hr.room; omega) (fun e => by rw [e, hb] at hnone; cases hnone) with hk | ⟨_, n, hin⟩
  · exact hk
  · obtain ⟨_, x, hx⟩ := hr.ancs b B m ao hb hg j n hin; rw [hnone] at hx; cases hx

end Go.AM

/- READING AND WRITING CELLS. -/
namespace Go.AM
section
variable {C : Cx} {ρ : Pl} {h h' : Heap} {w : World} {P : Program}

theorem takeN_get : ∀ {l : List AV} {n : Nat} {r : List AV}, takeN l n = some r → r.length = n ∧ n ≤ l.length ∧ ∀ i, i < n → r[i]? = l[i]?
  | l, 0, r, h => by cases l <;> simp [takeN] at h <;> subst h <;> simp
  | [], n + 1, r, h => by simp [takeN] at h
  | x :: l, n + 1, r, h => by
    simp only [takeN] at h
    cases hr : takeN l n with
    | none => rw [hr] at h; cases h
    | some r' =>
      rw [hr] at h; cases h
      obtain ⟨h1, h2, h3⟩ := takeN_get hr
      refine ⟨by simp [h1], by simp; omega, fun i hi => ?_⟩
      cases i with
      | zero => rfl
      | succ i => simpa using h3 i (by omega)

theorem cut_get {cs : List AV} {o n : Nat} {r : List AV} (hc : cut cs o n = some r) : r.length = n ∧ (n = 0 ∨ o + n ≤ cs.length) ∧ ∀ i, i < n → r[i]? = cs[o + i]? := by
  obtain ⟨h1, h2, h3⟩ := takeN_get hc
  refine ⟨h1, ?_, fun i hi => by rw [h3 i hi, List.getElem?_drop]⟩
  simp at h2; omega

theorem over_get : ∀ {cs : List AV} {o : Nat} {vs r : List AV}, over cs o vs = some r → r.length = cs.length ∧ o + vs.length ≤ cs.length ∧ ∀ i, r[i]? = if o ≤ i ∧ i < o + vs.length then vs[i - o]? else cs[i]?
  | cs, 0, [], r, h => by simp [over] at h; subst h; exact ⟨rfl, by simp, fun i => by rw [if_neg (by simp)]⟩
  | [], 0, _ :: _, r, h => by simp [over] at h
  | c :: cs, 0, v :: vs, r, h => by
    simp only [over] at h
    cases hr : over cs 0 vs with
    | none => rw [hr] at h; cases h
    | some r' =>
      rw [hr] at h; cases h
      obtain ⟨h1, h2, h3⟩ := over_get hr
      refine ⟨by simp [h1], by simp at h2 ⊢; omega, fun i => ?_⟩
      cases i with
      | zero => simp
      | succ i =>
        have := h3 i
        simp only [List.getElem?_cons_succ, List.length_cons, Nat.zero_le, true_and, Nat.zero_add, Nat.sub_zero] at this ⊢
        rw [this]
        by_cases hlt : i < vs.length
        · rw [if_pos hlt, if_pos (by omega)]
        · rw [if_neg hlt, if_neg (by omega)]
  | [], o + 1, vs, r, h => by cases vs <;> simp [over] at h
  | c :: cs, o + 1, vs, r, h => by
    have h' : (over cs o vs).map (c :: ·) = some r := by
      cases vs <;> (simp only [over] at h; rw [← h]; cases over cs o _ <;> rfl)
    cases hr : over cs o vs with
    | none => rw [hr] at h'; cases h'
    | some r' =>
      rw [hr] at h'; cases h'
      obtain ⟨h1, h2, h3⟩ := over_get hr
      refine ⟨by simp [h1], by simp; omega, fun i => ?_⟩
      cases i with
      | zero => simp
      | succ i =>
        have := h3 i
        simp only [List.getElem?_cons_succ] at this ⊢
        rw [this]
        by_cases hlt : o ≤ i ∧ i < o + vs.length
        · rw [if_pos hlt, if_pos (by omega)]; congr 1; omega
        · rw [if_neg hlt, if_neg (by omega)]

theorem addr_add (B o i : Nat) : (⟨B, o, none⟩ : Addr).add i = ⟨B, o + i, none⟩ := by
  unfold Addr.add
  split
  · rename_i e; rw [e]; rfl
  · rfl

/-- cells of the model that can be read -/
theorem run_loadCellsFrom (a : Addr) : ∀ (n i : Nat) (acc : Array Value) (xs : List Value), xs.length = n → (∀ j, j < n → w.cell? (a.add (i + j)) = xs[j]?) →
    (loadCellsFrom a i n acc).run P w = .ok (acc ++ xs.toArray) w
  | 0, i, acc, xs, hl, _ => by
    have : xs = [] := List.length_eq_zero_iff.1 hl
    subst this
    simp [loadCellsFrom]
  | n + 1, i, acc, xs, hl, hc => by
    cases xs with
    | nil => simp at hl
    | cons x xs =>
      have h0 : w.cell? (a.add i) = some x := by simpa using hc 0 (by omega)
      have hl' : xs.length = n := by simpa using hl
      simp only [loadCellsFrom, Sem.run_bind, run_load, h0, Result.andThen_ok]
      rw [run_loadCellsFrom a n (i + 1) (acc.push x) xs hl' (fun j hj => by
        have := hc (j + 1) (by omega)
        simp only [List.getElem?_cons_succ] at this
        rw [← this]; congr 2; omega)]
      simp

theorem run_loadCells (B o n : Nat) (xs : List Value) (hl : xs.length = n) (hc : ∀ j, j < n → w.cell? ⟨B, o + j, none⟩ = xs[j]?) :
    (loadCells ⟨B, o, none⟩ n).run P w = .ok xs.toArray w := by
  have := run_loadCellsFrom (P := P) (w := w) ⟨B, o, none⟩ n 0 #[] xs hl (fun j hj => by rw [addr_add, Nat.zero_add]; exact hc j hj)
  simpa [loadCells] using this

theorem cell_of {B i : Nat} {xs : List Value} {ty lo hi : Nat} (hB : w.heap[B]? = some (.cells xs.toArray ty (lo, hi))) : w.cell? ⟨B, i, none⟩ = xs[i]? := by
  simp [World.cell?, hB]

theorem frozen_of {B i : Nat} {xs : List Value} {ty lo hi : Nat} (hB : w.heap[B]? = some (.cells xs.toArray ty (lo, hi))) : w.frozen? ⟨B, i, none⟩ = (decide (lo ≤ i) && decide (i < hi)) := by
  simp [World.frozen?, hB]

/-- the model's cells with others from o on -/
def putV (xs : List Value) (o : Nat) : List Value → List Value
  | [] => xs
  | v :: vs => putV (xs.set o v) (o + 1) vs

theorem putV_length : ∀ (vs xs : List Value) (o : Nat), (putV xs o vs).length = xs.length
  | [], _, _ => rfl
  | v :: vs, xs, o => by simp [putV, putV_length vs]

theorem putV_get : ∀ (vs xs : List Value) (o : Nat), o + vs.length ≤ xs.length → ∀ i, (putV xs o vs)[i]? = if o ≤ i ∧ i < o + vs.length then vs[i - o]? else xs[i]?
  | [], xs, o, _, i => by rw [if_neg (by simp)]; rfl
  | v :: vs, xs, o, hl, i => by
    simp only [putV]
    simp only [List.length_cons] at hl
    rw [putV_get vs (xs.set o v) (o + 1) (by simp; omega) i]
    by_cases h1 : o + 1 ≤ i ∧ i < o + 1 + vs.length
    · rw [if_pos h1, if_pos (by simp; omega)]
      obtain ⟨j, rfl⟩ : ∃ j, i = o + 1 + j := ⟨i - (o + 1), by omega⟩
      have e1 : o + 1 + j - (o + 1) = j := by omega
      have e2 : o + 1 + j - o = j + 1 := by omega
      rw [e1, e2]; rfl
    · rw [if_neg h1]
      by_cases h2 : i = o
      · subst h2
        rw [if_pos (by simp), List.getElem?_set_self (by omega)]
        simp
      · rw [if_neg (by simp; omega), List.getElem?_set_ne (by omega)]

theorem run_storeCells : ∀ (vs xs : List Value) (B o i ty lo hi : Nat) (w : World), w.heap[B]? = some (.cells xs.toArray ty (lo, hi)) → o + i + vs.length ≤ xs.length → (∀ v ∈ vs, v.oneCell' = true) →
    (∀ j, o + i ≤ j → j < o + i + vs.length → ¬(lo ≤ j ∧ j < hi)) →
    (storeCells ⟨B, o, none⟩ vs i).run P w = .ok () (if vs = [] then w else w.putObj B (.cells (putV xs (o + i) vs).toArray ty (lo, hi)))
  | [], xs, B, o, i, ty, lo, hi, w, _, _, _, _ => by simp [storeCells]
  | v :: vs, xs, B, o, i, ty, lo, hi, w, hB, hl, hone, hf => by
    simp only [List.length_cons] at hl hf
    have hc : w.cell? ⟨B, o + i, none⟩ = some xs[o + i] := by rw [cell_of hB]; exact List.getElem?_eq_getElem (by omega)
    have hfr : w.frozen? ⟨B, o + i, none⟩ = false := by
      rw [frozen_of hB]
      have := hf (o + i) (by omega) (by omega)
      simp only [Bool.and_eq_false_iff, decide_eq_false_iff_not]
      omega
    have hset : w.setCell ⟨B, o + i, none⟩ v = w.putObj B (.cells (xs.set (o + i) v).toArray ty (lo, hi)) := by
      simp only [World.setCell, World.putObj]
      congr 1
      apply Array.ext_getElem?
      intro j
      rw [Array.getElem?_modify]
      by_cases e : B = j
      · subst e
        rw [if_pos rfl, hB]
        have hlt := (Array.getElem?_eq_some_iff.1 hB).1
        rw [Array.getElem?_setIfInBounds_self_of_lt hlt]
        simp
      · rw [if_neg e, Array.getElem?_setIfInBounds_ne e]
    have hB' : (w.putObj B (.cells (xs.set (o + i) v).toArray ty (lo, hi))).heap[B]? = some (.cells (xs.set (o + i) v).toArray ty (lo, hi)) :=
      World.putObj_heap_same (Array.getElem?_eq_some_iff.1 hB).1
    simp only [storeCells, Sem.run_bind, addr_add]
    rw [run_store P w ⟨B, o + i, none⟩ v .plain (hone v (by simp))]
    simp only [hc, hfr, Bool.false_eq_true, if_false, Result.andThen_ok]
    rw [hset, run_storeCells vs _ B o (i + 1) ty lo hi _ hB' (by simp; omega) (fun x hx => hone x (by simp [hx])) (fun j h1 h2 => hf j (by omega) (by omega))]
    simp only [reduceCtorEq, if_false]
    congr 1
    by_cases e : vs = []
    · subst e; simp [putV]
    · rw [if_neg e]
      simp only [putV, World.putObj, Array.setIfInBounds_setIfInBounds]
      congr 3
end
end Go.AM

/- LOADS AND STORES OF THE ABSTRACT MACHINE ARE THE MODEL's. -/
namespace Go.AM
section
variable {C : Cx} {ρ : Pl} {h h' : Heap} {w : World} {P : Program}

theorem kill_next : ∀ (anc : List (Nat × Nat)) (h : Heap) (o : Nat), (kill h o anc).next = h.next
  | [], _, _ => rfl
  | (a, n) :: r, h, o => by
    simp only [kill]
    rw [kill_next r]
    split <;> rfl

theorem kill_get : ∀ (anc : List (Nat × Nat)) (h : Heap) (o j : Nat), (∀ a n, (a, n) ∈ anc → 0 ≤ a) → 0 ≤ j →
    ((kill h o anc).get j = h.get j ∧ (∀ n, (j, n) ∈ anc → n ≤ o)) ∨ ((kill h o anc).get j = some .dead ∧ ∃ n, (j, n) ∈ anc)
  | [], h, o, j, _, _ => .inl ⟨rfl, fun n hn => by cases hn⟩
  | (a, n) :: r, h, o, j, ha, hj => by
    simp only [kill]
    rcases kill_get r (if o < n then h.set a .dead else h) o j (fun x y hx => ha x y (by simp [hx])) hj with ⟨h1, h2⟩ | ⟨h1, m, h2⟩
    · rw [h1]
      by_cases hlt : o < n
      · simp only [hlt, if_true]
        rw [Heap.get_set (ha a n (by simp)) hj]
        by_cases e : a = j
        · subst e; rw [if_pos rfl]; exact .inr ⟨rfl, n, by simp⟩
        · rw [if_neg e]
          refine .inl ⟨rfl, fun k hk => ?_⟩
          rcases List.mem_cons.1 hk with hk | hk
          · cases hk; exact absurd rfl e
          · exact h2 k hk
      · simp only [hlt, if_false]
        refine .inl ⟨by simp, fun k hk => ?_⟩
        rcases List.mem_cons.1 hk with hk | hk
        · cases hk; omega
        · exact h2 k hk
    · exact .inr ⟨h1, m, by simp [h2]⟩

/-- these cells hold these values -/
def CellsAt (w : World) (B o : Nat) (xs : List Value) : Prop := ∀ j, j < xs.length → w.cell? ⟨B, o + j, none⟩ = xs[j]?

theorem run_loadCells' {B o : Nat} {xs : List Value} (hc : CellsAt w B o xs) : (loadCells ⟨B, o, none⟩ xs.length).run P w = .ok xs.toArray w :=
  run_loadCells B o _ xs rfl hc

theorem read_sim (hr : Rel C ρ h w) {b o n B m : Nat} {cs : List AV} (hb : ρ b = some (B, m)) (hread : readAt h b o n = some cs) :
    ∃ xs, xs.length = n ∧ VRs C.st ρ cs xs ∧ CellsAt w B o xs := by
  obtain ⟨hbl, _, ao, oo, h1, h2, h3⟩ := hr.dom b B m hb
  simp only [readAt, Heap.find_of hbl h1] at hread
  cases ao with
  | cells ty ds own frz anc =>
    obtain ⟨xs, lo, hi, rfl, hm, hcr, _⟩ := h3
    simp only at hread
    obtain ⟨e1, e2, e3⟩ := cut_get hread
    have hlen := hcr.length
    refine ⟨(xs.drop o).take n, by simp; omega, VRs.of_get (by simp [e1]; omega) (fun i a ha => ?_), fun j hj => ?_⟩
    · have hi : i < n := by have := (List.getElem?_eq_some_iff.1 ha).1; omega
      rw [e3 i hi] at ha
      obtain ⟨x, hx, hv⟩ := hcr _ _ ha
      exact ⟨x, by rw [List.getElem?_take_of_lt hi, List.getElem?_drop]; exact hx, hv⟩
    · simp at hj
      rw [cell_of h2, List.getElem?_take_of_lt (by omega), List.getElem?_drop]
  | map kk es => simp at hread
  | iter s p => simp at hread
  | loop r => simp at hread
  | dead => simp at hread

theorem readP_sim (hr : Rel C ρ h w) {B d o n : Nat} {ds cs : List AV} (hp : PC C.st ρ B d ds) (hcut : cut ds o n = some cs) :
    ∃ xs, xs.length = n ∧ VRs C.st ρ cs xs ∧ CellsAt w B (d + o) xs := by
  obtain ⟨e1, e2, e3⟩ := cut_get hcut
  have key : ∀ i, i < n → ∃ x a, ds[o + i]? = some a ∧ w.cell? ⟨B, d + o + i, none⟩ = some x ∧ VR C.st ρ a x := fun i hi => by
    have hlt : o + i < ds.length := by omega
    obtain ⟨x, hx, hv⟩ := hp.get (List.getElem?_eq_getElem hlt)
    refine ⟨x, ds[o + i], List.getElem?_eq_getElem hlt, ?_, hv⟩
    rw [← (hr.low _ _ _ hx).2, Nat.add_assoc]
  refine ⟨(List.range n).map fun i => (w.cell? ⟨B, d + o + i, none⟩).getD undef, by simp, VRs.of_get (by simp [e1]) (fun i a ha => ?_), fun j hj => ?_⟩
  · have hi : i < n := by have := (List.getElem?_eq_some_iff.1 ha).1; omega
    obtain ⟨x, a', h1, h2, h3⟩ := key i hi
    rw [e3 i hi, h1] at ha; cases ha
    exact ⟨x, by simp [hi, h2], h3⟩
  · simp at hj
    obtain ⟨x, a', h1, h2, h3⟩ := key j hj
    simp [hj, h2]

theorem allCells_mem : ∀ {l : List AV}, allCells l = true → ∀ a ∈ l, a.isCell = true
  | [], _, a, ha => by cases ha
  | v :: l, h, a, ha => by
    simp only [allCells, Bool.and_eq_true] at h
    rcases List.mem_cons.1 ha with rfl | ha
    · exact h.1
    · exact allCells_mem h.2 a ha

theorem oneCells {vs : List AV} {xs : List Value} (hv : VRs C.st ρ vs xs) (ha : allCells vs = true) : ∀ x ∈ xs, x.oneCell' = true := by
  intro x hx
  obtain ⟨i, hi, rfl⟩ := List.getElem_of_mem hx
  have hl := hv.length
  obtain ⟨y, hy, hvr⟩ := hv.get (List.getElem?_eq_getElem (show i < vs.length by omega))
  rw [List.getElem?_eq_getElem hi] at hy; cases hy
  exact hvr.oneCell (allCells_mem ha _ (List.getElem_mem _))

theorem write_sim (hr : Rel C ρ h w) {b o B m : Nat} {vs : List AV} {xs : List Value} (hb : ρ b = some (B, m)) (hv : VRs C.st ρ vs xs) (hw : writeAt h b o vs = some h') :
    ∃ w', (storeCells ⟨B, o, none⟩ xs).run P w = .ok () w' ∧ Post C ρ h w ρ h' w' := by
  cases vs with
  | nil =>
    simp only [writeAt, Option.some.injEq] at hw; subst hw
    simp only [VRs] at hv; subst hv
    exact ⟨w, by simp [storeCells], Post.refl hr⟩
  | cons v vs =>
    obtain ⟨hbn, _, ao, oo, h1, h2, h3⟩ := hr.dom b B m hb
    have hroom := hr.room
    simp only [writeAt, h1] at hw
    cases ao with
    | cells ty ds own frz anc =>
      cases own with
      | false => simp at hw
      | true =>
        obtain ⟨ys, lo, hi, rfl, hm, hcr, hfr⟩ := h3
        simp only at hw
        by_cases hof : o + 1 < frz
        · simp [hof] at hw
        rw [if_neg hof] at hw
        by_cases hac : allCells (v :: vs) = true
        · rw [if_pos hac] at hw
          cases hov : over ds o (v :: vs) with
          | none => rw [hov] at hw; simp at hw
          | some ds' =>
            rw [hov] at hw
            simp only [Option.some.injEq] at hw
            obtain ⟨g1, g2, g3⟩ := over_get hov
            have hlx := hv.length
            have hlen := hcr.length
            have hne : xs ≠ [] := by intro e; rw [e] at hlx; simp at hlx
            have hrun := run_storeCells (P := P) xs ys B o 0 ty lo hi w h2 (by omega) (oneCells hv hac) (fun j hj1 hj2 => (hfr rfl).use (by omega) (by omega))
            rw [if_neg hne] at hrun
            refine ⟨_, hrun, ?_⟩
            have hanclt : ∀ a n, (a, n) ∈ anc → 0 ≤ a := fun a n hin => by
              obtain ⟨_, x, hx⟩ := hr.ancs b B m _ hb h1 a n hin
              have := (hr.dom a x.1 x.2 hx).1; omega
            have hancne : ∀ n, (b, n) ∉ anc := fun n hin => (hr.ancs b B m _ hb h1 b n hin).1 rfl
            have hgb : h'.get b = some (.cells ty ds' true frz anc) := by
              rw [← hw]
              rcases kill_get anc (h.set b (.cells ty ds' true frz anc)) o b hanclt (by omega) with ⟨k1, _⟩ | ⟨_, n, k2⟩
              · rw [k1, Heap.get_set (by omega) (by omega), if_pos rfl]
              · exact absurd k2 (hancne n)
            refine Post.put hr hb h1 rfl (by rw [← hw, kill_next]; rfl) ?_ hgb rfl ?_ ?_
            · intro j hj hjb
              rw [← hw]
              rcases kill_get anc (h.set b (.cells ty ds' true frz anc)) o j hanclt hj with ⟨k1, _⟩ | ⟨k1, n, k2⟩
              · left; rw [k1, Heap.get_set (by omega) hj, if_neg (fun e => hjb e.symm)]
              · right; exact ⟨k1, n, k2⟩
            · refine ⟨putV ys (o + 0) xs, lo, hi, rfl, by rw [putV_length]; exact hm, ?_, hfr⟩
              intro i a ha
              rw [g3 i] at ha
              rw [putV_get _ _ _ (by omega)]
              rw [hlx, Nat.add_zero]
              by_cases hin : o ≤ i ∧ i < o + (v :: vs).length
              · rw [if_pos hin] at ha ⊢
                exact hv.get ha
              · rw [if_neg hin] at ha ⊢
                exact hcr i a ha
            · intro b2 m2 ty2 cs2 frz2 anc2 n o2 hb2 hρ2 hg2 hin hle ho2 hor
              rw [h2] at ho2; cases ho2
              obtain ⟨zs, lo2, hi2, he, hm2, hcr2, hfr2⟩ := hor
              simp only [Obj.cells.injEq, Prod.mk.injEq] at he
              obtain ⟨he1, rfl, rfl, rfl⟩ := he
              have hz : ys = zs := by simpa using he1
              subst hz
              refine ⟨putV ys (o + 0) xs, lo, hi, rfl, by rw [putV_length]; exact hm2, ?_, hfr2⟩
              intro i a ha
              rw [putV_get _ _ _ (by omega)]
              have hno : n ≤ o := by
                rw [← hw] at hg2
                rcases kill_get anc (h.set b _) o b2 hanclt (by have := (hr.dom _ _ _ hρ2).1; omega) with ⟨_, k2⟩ | ⟨k1, _⟩
                · exact k2 n hin
                · rw [k1] at hg2; cases hg2
              have hi' : i < cs2.length := (List.getElem?_eq_some_iff.1 ha).1
              rw [if_neg (by omega)]
              exact hcr2 i a ha
        · rw [if_neg hac] at hw; cases hw
    | map kk es => simp at hw
    | iter s p => simp at hw
    | loop r => simp at hw
    | dead => simp at hw

/-! What the compiled operations know of types -/
theorem run_underlying {t : TypeId} {d : TypeDesc} (hd : P.underlying t = some d) : (underlying t).run P w = .ok d w := by
  simp [underlying, hd]

theorem run_isAgg {t : TypeId} {g : Bool} (hg : isAggA P t = some g) : (isAgg t).run P w = .ok g w := by
  unfold isAggA at hg
  unfold isAgg
  cases hu : P.underlying t with
  | none => rw [hu] at hg; cases hg
  | some d =>
    rw [hu] at hg
    simp only [Sem.run_bind, run_underlying hu, Result.andThen_ok]
    cases d <;> simp at hg <;> subst hg <;> rfl

theorem run_typeInfo {t : TypeId} {i : TypeInfo} (hi : P.info? t = some i) : (typeInfo t).run P w = .ok i w := by
  simp [typeInfo, hi]

theorem run_sizeOf {t : TypeId} {n : Nat} (hn : szA P t = some n) : (sizeOf t).run P w = .ok n w := by
  unfold szA at hn
  cases hi : P.info? t with
  | none => rw [hi] at hn; cases hn
  | some i => rw [hi] at hn; simp at hn; subst hn; simp [sizeOf, run_typeInfo hi]

theorem loadVar_sim {t : TypeId} {g : Bool} {B o : Nat} {cs : List AV} {xs : List Value} {v : AV} (hg : isAggA P t = some g) (hn : szA P t = some xs.length)
    (hv : VRs C.st ρ cs xs) (hc : CellsAt w B o xs) (hrd : readV g xs.length cs = some v) :
    ∃ x, (loadVar t ⟨B, o, none⟩).run P w = .ok x w ∧ VR C.st ρ v x := by
  unfold loadVar
  simp only [Sem.run_bind, run_isAgg hg, Result.andThen_ok]
  unfold readV at hrd
  cases g with
  | true =>
    simp only [if_true, Option.some.injEq] at hrd ⊢
    subst hrd
    simp only [Sem.run_bind, run_sizeOf hn, Result.andThen_ok, run_loadCells' hc, Sem.run_pure]
    exact ⟨_, rfl, by simp only [VR]; exact ⟨xs, rfl, hv⟩⟩
  | false =>
    simp only [Bool.false_eq_true, if_false] at hrd ⊢
    have hl := hv.length
    cases cs with
    | nil => simp at hrd
    | cons c cs =>
      cases cs with
      | cons c2 cs => simp at hrd
      | nil =>
        simp only at hrd
        by_cases h1 : xs.length = 1
        · rw [if_pos h1] at hrd; cases hrd
          simp only [VRs] at hv
          obtain ⟨x, r, rfl, hx, rfl⟩ := hv
          refine ⟨x, ?_, hx⟩
          have := hc 0 (by simp)
          simp at this
          simp [this]
        · rw [if_neg h1] at hrd; cases hrd

theorem storeVar_sim (hr : Rel C ρ h w) {t : TypeId} {n b o B m : Nat} {v : AV} {x : Value} (hn : szA P t = some n) (hb : ρ b = some (B, m)) (hv : VR C.st ρ v x) (hl : v.cells.length = n)
    (hw : writeAt h b o v.cells = some h') (h0 : v ≠ .bot) :
    ∃ w', (storeVar t ⟨B, o, none⟩ x).run P w = .ok () w' ∧ Post C ρ h w ρ h' w' := by
  have hcs := hv.cells h0
  have hlen := hcs.length
  obtain ⟨w', h1, h2⟩ := write_sim (P := P) hr hb hcs hw
  refine ⟨w', ?_, h2⟩
  unfold storeVar
  simp only [Sem.run_bind, run_sizeOf hn, Result.andThen_ok]
  have : x.cells.size = n := by rw [← hl, ← hlen]; simp
  simp only [this, ne_eq, not_true_eq_false, if_false]
  simpa using h1
end
end Go.AM

/- OPERANDS, NEW BLOCKS, AGGREGATES. -/
namespace Go.AM

mutual
theorem valA_sim {st : Stab} {ρ : Pl} : ∀ (v : Value) (a : AV), valA v = some a → VR st ρ a v ∧ a ≠ .bot := by
  intro v a h
  cases v with
  | bool b => simp [valA] at h; subst h; simp [VR]
  | int k n => simp [valA] at h; subst h; simp [VR]
  | float k b => simp [valA] at h
  | complex k a b => simp [valA] at h
  | string s => simp [valA] at h; subst h; simp [VR]
  | pointer a => cases a with
    | none => simp [valA] at h; subst h; simp [VR]
    | some a => simp [valA] at h
  | slice a n c =>
    cases a with
    | some a => simp [valA] at h
    | none =>
      cases n with
      | succ n => simp [valA] at h
      | zero => cases c with
        | succ c => simp [valA] at h
        | zero => simp [valA] at h; subst h; simp [VR]
  | map r => cases r with
    | none => simp [valA] at h; subst h; simp [VR]
    | some r => simp [valA] at h
  | chan r => simp [valA] at h
  | func fn x y =>
    obtain ⟨x⟩ := x; obtain ⟨y⟩ := y
    cases fn <;> cases x <;> cases y <;> simp [valA] at h
    subst h
    refine ⟨?_, by simp⟩
    simp only [VR]
    exact ⟨[], [], rfl, by simp only [VRs], by simp only [VRs]⟩
  | nilFunc => simp [valA] at h; subst h; simp [VR]
  | iface t v =>
    simp only [valA] at h
    cases hv : valA v with
    | none => rw [hv] at h; cases h
    | some b => rw [hv] at h; cases h; exact ⟨by simp only [VR]; exact ⟨v, rfl, (valA_sim v b hv).1⟩, by simp⟩
  | nilIface => simp [valA] at h; subst h; simp [VR]
  | agg cs =>
    obtain ⟨cs⟩ := cs
    simp only [valA] at h
    cases hv : valsA cs with
    | none => rw [hv] at h; cases h
    | some b => rw [hv] at h; cases h; exact ⟨by simp only [VR]; exact ⟨cs, rfl, valsA_sim cs b hv⟩, by simp⟩
  | tuple cs =>
    obtain ⟨cs⟩ := cs
    simp only [valA] at h
    cases hv : valsA cs with
    | none => rw [hv] at h; cases h
    | some b => rw [hv] at h; cases h; exact ⟨by simp only [VR]; exact ⟨cs, rfl, valsA_sim cs b hv⟩, by simp⟩
theorem valsA_sim {st : Stab} {ρ : Pl} : ∀ (l : List Value) (r : List AV), valsA l = some r → VRs st ρ r l := by
  intro l r h
  cases l with
  | nil => simp [valsA] at h; subst h; simp only [VRs]
  | cons v l =>
    simp only [valsA] at h
    cases hv : valA v with
    | none => rw [hv] at h; simp at h
    | some b =>
      cases hl : valsA l with
      | none => rw [hv, hl] at h; simp at h
      | some r' =>
        rw [hv, hl] at h; cases h
        simp only [VRs]
        exact ⟨v, l, rfl, (valA_sim v b hv).1, valsA_sim l r' hl⟩
end

/-- the listed package-level variables hold what the tables say -/
def Cx.globOK (C : Cx) : Prop := (∀ ρ g cs, C.T.G g = some cs → PC C.st ρ g 0 cs) ∧ ∀ g cs, C.T.G g = some cs → cs ≠ [] → C.w0.cell? ⟨g, cs.length, none⟩ = none

section
variable {C : Cx} {ρ : Pl} {h h' : Heap} {w : World} {P : Program} {t : Tm} {a : Act}

theorem opd_sim (hg : C.globOK) (ht : TR C.st ρ t a.tmps) {x : Operand} {d : Opd} (hx : opdA C.T x = some d) : VR C.st ρ (d.ev t) (a.eval x) := by
  cases x with
  | tmp i => simp [opdA] at hx; subst hx; exact ht i
  | const v =>
    simp only [opdA, Option.map_eq_some_iff] at hx
    obtain ⟨b, hb, rfl⟩ := hx
    exact (valA_sim v b hb).1
  | global g =>
    simp only [opdA, Option.map_eq_some_iff] at hx
    obtain ⟨cs, hb, rfl⟩ := hx
    simp only [Opd.ev, Act.eval, VR]
    exact ⟨g, 0, rfl, hg.1 ρ g cs hb⟩
  | func f =>
    simp [opdA] at hx; subst hx
    simp only [Opd.ev, Act.eval, VR]
    exact ⟨[], [], rfl, by simp only [VRs], by simp only [VRs]⟩

theorem opds_sim (hg : C.globOK) (ht : TR C.st ρ t a.tmps) : ∀ {xs : List Operand} {ds : List Opd}, opdsA C.T xs = some ds → VRs C.st ρ (evalAll t ds) (xs.map a.eval)
  | [], ds, hx => by simp [opdsA] at hx; subst hx; simp only [evalAll, VRs, List.map_nil]
  | x :: xs, ds, hx => by
    simp only [opdsA] at hx
    cases h1 : opdA C.T x with
    | none => rw [h1] at hx; simp at hx
    | some d =>
      cases h2 : opdsA C.T xs with
      | none => rw [h1, h2] at hx; simp at hx
      | some r =>
        rw [h1, h2] at hx; cases hx
        simp only [evalAll, VRs, List.map_cons]
        exact ⟨_, _, rfl, opd_sim hg ht h1, opds_sim hg ht h2⟩

/-- new cells: the abstract ones are some of the model's -/
theorem new_sim (hr : Rel C ρ h w) {ty b : Nat} {cs : List AV} {anc : List (Nat × Nat)} {frz : Nat} (ha : h.alloc (.cells ty cs true frz anc) = some (b, h')) {xs : List Value} (hcs : CR C.st ρ cs xs)
    (hanc : ∀ a n, (a, n) ∈ anc → ∃ x, ρ a = some x) :
    (newRow ty xs.toArray).run P w = .ok ⟨w.heap.size, 0, none⟩ (w.alloc (.cells xs.toArray ty)) ∧
      Post C ρ h w (ρ.upd b (w.heap.size, xs.length)) h' (w.alloc (.cells xs.toArray ty)) ∧ (ρ.upd b (w.heap.size, xs.length)) b = some (w.heap.size, xs.length) := by
  refine ⟨rfl, Post.alloc hr ha ⟨xs, 0, 0, rfl, rfl, hcs, fun _ => by unfold FC; split <;> exact .inl rfl⟩ hanc⟩

theorem CR.of_VRs {st : Stab} {ρ : Pl} {cs : List AV} {xs : List Value} (hv : VRs st ρ cs xs) : CR st ρ cs xs := fun _ _ ha => hv.get ha

theorem new_sim' (hr : Rel C ρ h w) {ty b : Nat} {cs : List AV} (ha : newCells h ty cs = some (b, h')) {xs : List Value} (hcs : CR C.st ρ cs xs) :
    (newRow ty xs.toArray).run P w = .ok ⟨w.heap.size, 0, none⟩ (w.alloc (.cells xs.toArray ty)) ∧
      Post C ρ h w (ρ.upd b (w.heap.size, xs.length)) h' (w.alloc (.cells xs.toArray ty)) ∧ (ρ.upd b (w.heap.size, xs.length)) b = some (w.heap.size, xs.length) :=
  new_sim hr ha hcs (fun _ _ hin => by cases hin)

theorem zeroA_sim {e : TypeId} {z : AV} (hz : zeroA P e = some z) : ∃ v, (zeroValue e).run P w = .ok v w ∧ (∀ st ρ, VR st ρ z v) ∧ z ≠ .bot := by
  unfold zeroA at hz
  cases hi : P.info? e with
  | none => rw [hi] at hz; simp at hz
  | some i =>
    rw [hi] at hz
    simp only [Option.bind_some] at hz
    cases hzz : i.zero with
    | none => rw [hzz] at hz; simp at hz
    | some v =>
      rw [hzz] at hz
      simp only [Option.bind_some] at hz
      refine ⟨v, ?_, fun st ρ => (valA_sim v z hz).1, (valA_sim (st := fun _ _ => none) (ρ := fun _ => none) v z hz).2⟩
      simp [zeroValue, run_typeInfo hi, hzz]

theorem zeroCs_sim {e : TypeId} {zs : List AV} (hz : zeroCs P e = some zs) : ∃ v, (zeroValue e).run P w = .ok v w ∧ (∀ st ρ, VRs st ρ zs v.cells.toList) := by
  unfold zeroCs at hz
  simp only [Option.map_eq_some_iff] at hz
  obtain ⟨z, hz, rfl⟩ := hz
  obtain ⟨v, h1, h2, h3⟩ := zeroA_sim (w := w) hz
  exact ⟨v, h1, fun st ρ => (h2 st ρ).cells h3⟩

/-! Parts of aggregates -/
theorem fold_put (c : List Value) (off : Nat) : ∀ (k : Nat) (cells : Array Value), off + k + c.length ≤ cells.size →
    ((c.zipIdx k).foldl (fun (cs : Array Value) (x : Value × Nat) => cs.setIfInBounds (off + x.2) x.1) cells).toList = putV cells.toList (off + k) c := by
  induction c with
  | nil => intro k cells _; rfl
  | cons v c ih =>
    intro k cells hl
    simp only [List.length_cons] at hl
    simp only [List.zipIdx_cons, List.foldl_cons]
    rw [ih (k + 1) _ (by simp; omega)]
    simp only [putV, Array.toList_setIfInBounds, Nat.add_assoc]

theorem put_VRs {st : Stab} {ρ : Pl} {cs vs cs' : List AV} {xs ys : List Value} {o : Nat} (hc : VRs st ρ cs xs) (hv : VRs st ρ vs ys) (ho : over cs o vs = some cs') : VRs st ρ cs' (putV xs o ys) := by
  obtain ⟨g1, g2, g3⟩ := over_get ho
  have l1 := hc.length
  have l2 := hv.length
  refine VRs.of_get (by rw [putV_length, l1, g1]) (fun i a ha => ?_)
  rw [g3 i] at ha
  rw [putV_get _ _ _ (by omega), l2]
  by_cases hin : o ≤ i ∧ i < o + vs.length
  · rw [if_pos hin] at ha ⊢; exact hv.get ha
  · rw [if_neg hin] at ha ⊢; exact hc.get ha

/-- parts, related one by one -/
def PartsR (st : Stab) (ρ : Pl) (place : Nat → Option (Nat × Nat)) : List (Nat × Nat × AV) → List (Nat × Value) → Prop
  | [], ps => ps = []
  | (off, n, v) :: l, ps => ∃ i x r, ps = (i, x) :: r ∧ place i = some (off, n) ∧ VR st ρ v x ∧ PartsR st ρ place l r

theorem fill_sim {st : Stab} {ρ : Pl} {place : Nat → Option (Nat × Nat)} : ∀ {ps : List (Nat × Nat × AV)} {qs : List (Nat × Value)} {cs cs' : List AV} {cells : Array Value},
    PartsR st ρ place ps qs → VRs st ρ cs cells.toList → fillA cs ps = some cs' → ∃ xs, Instr.fill place cells qs = some xs ∧ VRs st ρ cs' xs.toList
  | [], qs, cs, cs', cells, hp, hc, hf => by
    simp only [PartsR] at hp; subst hp
    simp only [fillA, Option.some.injEq] at hf; subst hf
    exact ⟨cells, rfl, hc⟩
  | (off, n, v) :: l, qs, cs, cs', cells, hp, hc, hf => by
    simp only [PartsR] at hp
    obtain ⟨i, x, r, rfl, hpl, hv, hl⟩ := hp
    simp only [fillA] at hf
    by_cases hcond : v.cells.length = n ∧ allCells v.cells = true
    · rw [if_pos hcond] at hf
      cases ho : over cs off v.cells with
      | none => rw [ho] at hf; cases hf
      | some cs1 =>
        rw [ho] at hf
        have h0 : v ≠ .bot := by intro e; subst e; simp [AV.cells, allCells, AV.isCell] at hcond
        have hvc := hv.cells h0
        have lv := hvc.length
        have lc := hc.length
        obtain ⟨_, g2, _⟩ := over_get ho
        have hsz : x.cells.size = n := by rw [← hcond.1, ← lv]; simp
        have hsz2 : off + x.cells.size ≤ cells.size := by
          have : cells.size = cs.length := by rw [← lc]; simp
          omega
        simp only [Instr.fill, hpl]
        rw [if_neg (by simp [hsz]; omega)]
        refine fill_sim hl ?_ hf
        have := fold_put x.cells.toList off 0 cells (by simpa using hsz2)
        rw [← Array.foldl_toList, Array.toList_zipIdx, this]
        exact put_VRs hc hvc ho
    · rw [if_neg hcond] at hf; cases hf

theorem range_rep (z : Array Value) (n : Nat) : ((Array.range (n * z.size)).map (fun i => z[i % z.size]!)).toList = (List.replicate n z.toList).flatten := by
  apply List.ext_getElem?
  intro i
  simp only [Array.toList_map, Array.toList_range, List.getElem?_map]
  induction n generalizing i with
  | zero => simp
  | succ n ih =>
    rw [List.replicate_succ, List.flatten_cons, List.getElem?_append]
    have hlen : z.toList.length = z.size := by simp
    rw [hlen]
    by_cases h1 : i < z.size
    · rw [if_pos h1]
      have h2 : i < (n + 1) * z.size := by rw [Nat.succ_mul]; omega
      rw [List.getElem?_range h2]
      simp [Nat.mod_eq_of_lt h1, h1]
    · rw [if_neg h1, ← ih]
      by_cases h2 : i < (n + 1) * z.size
      · have h3 : i - z.size < n * z.size := by rw [Nat.succ_mul] at h2; omega
        rw [List.getElem?_range h2, List.getElem?_range h3]
        simp only [Option.map_some]
        have : i % z.size = (i - z.size) % z.size := by
          conv => lhs; rw [show i = (i - z.size) + z.size by omega]
          rw [Nat.add_mod_right]
        rw [this]
      · have h3 : ¬ i - z.size < n * z.size := by rw [Nat.succ_mul] at h2; omega
        rw [List.getElem?_eq_none (by simpa using h2), List.getElem?_eq_none (by simpa using h3)]

theorem rep_VRs {st : Stab} {ρ : Pl} {zs : List AV} {xs : List Value} (hz : VRs st ρ zs xs) : ∀ n, VRs st ρ (List.replicate n zs).flatten (List.replicate n xs).flatten
  | 0 => by simp [VRs]
  | n + 1 => by rw [List.replicate_succ, List.replicate_succ, List.flatten_cons, List.flatten_cons]; exact hz.append (rep_VRs hz n)
end
end Go.AM

/- THE OPERATIONS THAT NEITHER CALL NOR WRITE, FIRST PART. -/
namespace Go.AM
section
variable {C : Cx} {ρ : Pl} {h h' : Heap} {w : World} {P : Program} {t : Tm} {a : Act}

/-- what a computation of the model comes to -/
def Sim (C : Cx) (P : Program) (ρ : Pl) (h : Heap) (w : World) (s : Sem Value) (v : AV) (h' : Heap) : Prop :=
  ∃ ρ' x w', s.run P w = .ok x w' ∧ VR C.st ρ' v x ∧ Post C ρ h w ρ' h' w'

theorem Sim.pure {x : Value} {v : AV} (hr : Rel C ρ h w) (hv : VR C.st ρ v x) : Sim C P ρ h w (Pure.pure x) v h := ⟨ρ, x, w, rfl, hv, Post.refl hr⟩
theorem Sim.of_run {s : Sem Value} {x : Value} {v : AV} (hr : Rel C ρ h w) (hs : s.run P w = .ok x w) (hv : VR C.st ρ v x) : Sim C P ρ h w s v h := ⟨ρ, x, w, hs, hv, Post.refl hr⟩

theorem Rel.drawn (hr : Rel C ρ h w) (n : Nat) : Rel C ρ h { w with drawn := n } :=
  ⟨hr.room, hr.dom, hr.inj, hr.ancs, hr.low, hr.base, hr.io⟩

theorem ptr_sim {b o : Nat} {x : Value} (hv : VR C.st ρ (.ptr b o) x) : ∃ B m, ρ b = some (B, m) ∧ x = .pointer (some ⟨B, o, none⟩) := by
  simpa only [VR] using hv

theorem VR_ptr {st : Stab} {b B m o : Nat} (hb : ρ b = some (B, m)) : VR st ρ (.ptr b o) (.pointer (some ⟨B, o, none⟩)) := by
  simp only [VR]; exact ⟨B, m, hb, rfl⟩

theorem sim_alloc (hr : Rel C ρ h w) {e b : Nat} {zs : List AV} (hz : zeroCs P e = some zs) (hn : newCells h e zs = some (b, h')) :
    Sim C P ρ h w (Instr.alloc e true (.tuple #[])) (.ptr b 0) h' := by
  obtain ⟨v, h1, h2⟩ := zeroCs_sim (w := w) hz
  obtain ⟨g1, g2, g3⟩ := new_sim' (P := P) hr hn (xs := v.cells.toList) (CR.of_VRs (h2 C.st ρ))
  refine ⟨_, _, _, ?_, VR_ptr g3, g2⟩
  simp only [Instr.alloc, Sem.run_bind, h1, Result.andThen_ok, newVar]
  simp only [Array.toArray_toList] at g1
  rw [g1]
  rfl

theorem sim_box (hr : Rel C ρ h w) {e b : Nat} {v : AV} {x : Value} (hv : VR C.st ρ v x) (ha : allCells v.cells = true) (hn : newCells h e v.cells = some (b, h')) :
    Sim C P ρ h w (Instr.box e x) (.ptr b 0) h' := by
  have h0 : v ≠ .bot := by intro e; subst e; simp [AV.cells, allCells, AV.isCell] at ha
  obtain ⟨g1, g2, g3⟩ := new_sim' (P := P) hr hn (xs := x.cells.toList) (CR.of_VRs (hv.cells h0))
  refine ⟨_, _, _, ?_, VR_ptr g3, g2⟩
  simp only [Instr.box, Sem.run_bind, newVar]
  simp only [Array.toArray_toList] at g1
  rw [g1]
  rfl

/-- the address behind a pointer, and what is read there -/
theorem deref (hr : Rel C ρ h w) {v : AV} {x : Value} {n : Nat} {cs : List AV} (hv : VR C.st ρ v x)
    (hc : (match v with | .ptr b o => readAt h b o n | .pptr ds o => cut ds o n | _ => none) = some cs) :
    ∃ B o xs, x = .pointer (some ⟨B, o, none⟩) ∧ xs.length = n ∧ VRs C.st ρ cs xs ∧ CellsAt w B o xs := by
  cases v <;> simp only [reduceCtorEq] at hc
  case ptr b o =>
    obtain ⟨B, m, hb, rfl⟩ := ptr_sim hv
    obtain ⟨xs, h1, h2, h3⟩ := read_sim hr hb hc
    exact ⟨B, o, xs, rfl, h1, h2, h3⟩
  case pptr ds o =>
    simp only [VR] at hv
    obtain ⟨B, d, rfl, hp⟩ := hv
    obtain ⟨xs, h1, h2, h3⟩ := readP_sim hr hp hc
    exact ⟨B, d + o, xs, rfl, h1, h2, h3⟩

theorem sim_load (hr : Rel C ρ h w) {ty : TypeId} {g : Bool} {n : Nat} {v r : AV} {x : Value} {cs : List AV} (hg : isAggA P ty = some g) (hn : szA P ty = some n) (hv : VR C.st ρ v x)
    (hc : (match v with | .ptr b o => readAt h b o n | .pptr ds o => cut ds o n | _ => none) = some cs) (hrd : readV g n cs = some r) :
    Sim C P ρ h w (Instr.loadAt ty x) r h := by
  obtain ⟨B, o, xs, rfl, rfl, h2, h3⟩ := deref hr hv hc
  obtain ⟨y, h4, h5⟩ := loadVar_sim (P := P) (w := w) hg hn h2 h3 hrd
  refine Sim.of_run hr ?_ h5
  simp only [Instr.loadAt, Instr.sureAddr, Sem.run_bind, Sem.run_pure, Result.andThen_ok]
  exact h4

theorem sim_store (hr : Rel C ρ h w) {ty : TypeId} {n b o : Nat} {v p : AV} {x q : Value} (hn : szA P ty = some n) (hp : VR C.st ρ p q) (hpe : p = .ptr b o) (hv : VR C.st ρ v x) (hl : v.cells.length = n)
    (hw : writeAt h b o v.cells = some h') : ∃ w', (Instr.storeAt ty q x).run P w = .ok () w' ∧ Post C ρ h w ρ h' w' := by
  subst hpe
  obtain ⟨B, m, hb, rfl⟩ := ptr_sim hp
  have h0 : v ≠ .bot := by
    intro e; subst e
    simp only [AV.cells, writeAt] at hw
    obtain ⟨_, _, ao, oo, h1, _, _⟩ := hr.dom b B m hb
    rw [h1] at hw
    cases ao with
    | cells ty ds own frz anc => cases own <;> simp [allCells, AV.isCell] at hw
    | _ => simp at hw
  obtain ⟨w', h1, h2⟩ := storeVar_sim (P := P) hr hn hb hv hl hw h0
  refine ⟨w', ?_, h2⟩
  simp only [Instr.storeAt, Instr.sureAddr, Sem.run_bind, Sem.run_pure, Result.andThen_ok]
  exact h1

theorem sim_fieldAddr (hr : Rel C ρ h w) {s : TypeId} {fs : Array Field} {f : Field} {i n : Nat} {v r : AV} {x : Value} (hu : P.underlying s = some (.struct fs)) (hf : fs[i]? = some f)
    (hn : szA P f.type = some n) (hn0 : n ≠ 0) (hv : VR C.st ρ v x)
    (he : (match v with | .ptr b o => some (AV.ptr b (o + f.offset)) | .pptr cs o => some (AV.pptr cs (o + f.offset)) | _ => none) = some r) :
    Sim C P ρ h w (Instr.fieldAt s x i) r h := by
  have key : ∀ B o, (Instr.fieldAt s (.pointer (some ⟨B, o, none⟩)) i).run P w = .ok (.pointer (some ⟨B, o + f.offset, none⟩)) w := fun B o => by
    simp only [Instr.fieldAt, Sem.run_bind, run_underlying hu, Result.andThen_ok, hf, Instr.sureAddr, Sem.run_pure, fieldPlace, run_sizeOf hn]
    rw [if_neg hn0]
    simp only [Sem.run_pure, Result.andThen_ok, addr_add]
  cases v <;> simp only [reduceCtorEq, Option.some.injEq] at he
  case ptr b o =>
    subst he
    obtain ⟨B, m, hb, rfl⟩ := ptr_sim hv
    exact Sim.of_run hr (key B o) (VR_ptr hb)
  case pptr cs o =>
    subst he
    simp only [VR] at hv
    obtain ⟨B, d, rfl, hp⟩ := hv
    exact Sim.of_run hr (key B (d + o)) (by simp only [VR]; exact ⟨B, d, by rw [Nat.add_assoc], hp⟩)

theorem int_of {k : IntKind} {n : Int} {x : Value} (hv : VR C.st ρ (.int k n) x) : x = .int k n := by simpa only [VR] using hv

theorem idxA_sim {v : AV} {x : Value} {m j : Nat} (hv : VR C.st ρ v x) (hi : idxA v m = some j) : ∃ k n, x = .int k n ∧ (asIntOf x).run P w = .ok (k, n) w ∧ 0 ≤ n ∧ n < (m : Int) ∧ n.toNat = j := by
  cases v <;> simp only [idxA, reduceCtorEq] at hi
  case int k n =>
    have hx := int_of hv
    subst hx
    by_cases hc : 0 ≤ n ∧ n < (m : Int)
    · rw [if_pos hc] at hi; cases hi; exact ⟨k, n, rfl, rfl, hc.1, hc.2, rfl⟩
    · rw [if_neg hc] at hi; cases hi

theorem sim_idxAddrS (hr : Rel C ρ h w) {ty el : TypeId} {e : Nat} {v i r : AV} {x y : Value} (hu : P.underlying ty = some (.slice el)) (hn : szA P el = some e) (hv : VR C.st ρ v x) (hi : VR C.st ρ i y)
    (he : evOp (.idxAddrS e (.k v) (.k i)) t h = some (r, h')) : Sim C P ρ h w (Instr.indexAt ty x y) r h' := by
  have key : ∀ (B o len cap : Nat) (k : IntKind) (n : Int), y = .int k n → 0 ≤ n → n < (len : Int) → (Instr.indexAt ty (.slice (some ⟨B, o, none⟩) len cap) y).run P w = .ok (.pointer (some ⟨B, o + n.toNat * e, none⟩)) w := fun B o len cap k n hy h0 h1 => by
    subst hy
    simp only [Instr.indexAt, asIntOf, Sem.run_bind, Sem.run_pure, Result.andThen_ok, run_underlying hu]
    simp only [h0, h1, and_self, if_true, Sem.run_bind, run_sizeOf hn, Result.andThen_ok, Sem.run_pure, addr_add]
  cases v <;> simp only [evOp, Opd.ev, reduceCtorEq] at he
  case slice b o n c e' =>
    by_cases hee : e' = e
    · rw [if_pos hee] at he
      cases hj : idxA i n with
      | none => rw [hj] at he; cases he
      | some j =>
        rw [hj] at he; cases he
        obtain ⟨k, q, rfl, _, h0, h1, rfl⟩ := idxA_sim (P := P) (w := w) hi hj
        simp only [VR] at hv
        obtain ⟨B, m, kk, hb, rfl, _, _⟩ := hv
        exact Sim.of_run hr (key B o n kk k q rfl h0 h1) (VR_ptr hb)
    · rw [if_neg hee] at he; cases he
  case pslice cs o n c =>
    cases hj : idxA i n with
    | none => rw [hj] at he; cases he
    | some j =>
      rw [hj] at he; cases he
      obtain ⟨k, q, rfl, _, h0, h1, rfl⟩ := idxA_sim (P := P) (w := w) hi hj
      simp only [VR] at hv
      obtain ⟨B, d, kk, rfl, _, _, hp⟩ := hv
      exact Sim.of_run hr (key B (d + o) n kk k q rfl h0 h1) (by simp only [VR]; exact ⟨B, d, by rw [Nat.add_assoc], hp⟩)

theorem sim_idxAddrA (hr : Rel C ρ h w) {ty el : TypeId} {len e : Nat} {v i r : AV} {x y : Value} (hu : P.underlying ty = some (.array len el)) (hn : szA P el = some e) (hv : VR C.st ρ v x) (hi : VR C.st ρ i y)
    (he : evOp (.idxAddrA len e (.k v) (.k i)) t h = some (r, h')) : Sim C P ρ h w (Instr.indexAt ty x y) r h' := by
  have key : ∀ (B o : Nat) (k : IntKind) (n : Int), y = .int k n → 0 ≤ n → n < (len : Int) → (Instr.indexAt ty (.pointer (some ⟨B, o, none⟩)) y).run P w = .ok (.pointer (some ⟨B, o + n.toNat * e, none⟩)) w := fun B o k n hy h0 h1 => by
    subst hy
    simp only [Instr.indexAt, asIntOf, Sem.run_bind, Sem.run_pure, Result.andThen_ok, run_underlying hu, Instr.sureAddr]
    simp only [h0, h1, and_self, if_true, Sem.run_bind, run_sizeOf hn, Result.andThen_ok, Sem.run_pure, addr_add]
  cases v <;> simp only [evOp, Opd.ev, reduceCtorEq] at he
  case ptr b o =>
    cases hj : idxA i len with
    | none => rw [hj] at he; cases he
    | some j =>
      rw [hj] at he; cases he
      obtain ⟨k, q, rfl, _, h0, h1, rfl⟩ := idxA_sim (P := P) (w := w) hi hj
      obtain ⟨B, m, hb, rfl⟩ := ptr_sim hv
      exact Sim.of_run hr (key B o k q rfl h0 h1) (VR_ptr hb)
  case pptr cs o =>
    cases hj : idxA i len with
    | none => rw [hj] at he; cases he
    | some j =>
      rw [hj] at he; cases he
      obtain ⟨k, q, rfl, _, h0, h1, rfl⟩ := idxA_sim (P := P) (w := w) hi hj
      simp only [VR] at hv
      obtain ⟨B, d, rfl, hp⟩ := hv
      exact Sim.of_run hr (key B (d + o) k q rfl h0 h1) (by simp only [VR]; exact ⟨B, d, by rw [Nat.add_assoc], hp⟩)

theorem sim_idxStr (hr : Rel C ρ h w) {ty : TypeId} {v i r : AV} {x y : Value} (hu : P.underlying ty = some .string) (hv : VR C.st ρ v x) (hi : VR C.st ρ i y)
    (he : evOp (.idxStr (.k v) (.k i)) t h = some (r, h')) : Sim C P ρ h w (Instr.index ty x y) r h' := by
  cases v <;> simp only [evOp, Opd.ev, reduceCtorEq] at he
  case str s =>
    cases i <;> simp only [reduceCtorEq] at he
    case int k n =>
      have hy := int_of hi
      subst hy
      simp only [VR] at hv
      subst hv
      by_cases h0 : 0 ≤ n
      · rw [if_pos h0] at he
        cases hs : s[n.toNat]? with
        | none => rw [hs] at he; cases he
        | some b =>
          rw [hs] at he; cases he
          refine Sim.of_run hr (x := .int .u8 b.toNat) ?_ (by simp [byteA, VR])
          simp only [Instr.index, asIntOf, Sem.run_bind, Sem.run_pure, Result.andThen_ok, run_underlying hu, h0, if_true]
          have : (⟨s.toArray⟩ : ByteArray)[n.toNat]? = some b := by
            rw [← hs]
            by_cases hlt : n.toNat < s.length
            · rw [getElem?_pos (⟨s.toArray⟩ : ByteArray) n.toNat (show n.toNat < (⟨s.toArray⟩ : ByteArray).size from hlt), getElem?_pos s n.toNat hlt]; rfl
            · rw [getElem?_neg (⟨s.toArray⟩ : ByteArray) n.toNat (show ¬ n.toNat < (⟨s.toArray⟩ : ByteArray).size from hlt), getElem?_neg s n.toNat hlt]
          rw [this]
          rfl
      · rw [if_neg h0] at he; cases he

theorem sim_field (hr : Rel C ρ h w) {s : TypeId} {fs : Array Field} {f : Field} {i n : Nat} {g : Bool} {v r : AV} {x : Value} (hu : P.underlying s = some (.struct fs)) (hf : fs[i]? = some f)
    (hg : isAggA P f.type = some g) (hn : szA P f.type = some n) (hv : VR C.st ρ v x) (he : evOp (.field g f.offset n (.k v)) t h = some (r, h')) :
    Sim C P ρ h w (Instr.field s x i) r h' := by
  cases v <;> simp only [evOp, Opd.ev, reduceCtorEq] at he
  case agg cs =>
    cases hc : cut cs f.offset n with
    | none => rw [hc] at he; cases he
    | some l =>
      rw [hc] at he
      simp only at he
      cases hrd : readV g n l with
      | none => rw [hrd] at he; cases he
      | some u =>
        rw [hrd] at he; cases he
        simp only [VR] at hv
        obtain ⟨xs, rfl, hxs⟩ := hv
        obtain ⟨c1, c2, c3⟩ := cut_get hc
        have hlx := hxs.length
        have hl2 : n = 0 ∨ f.offset + n ≤ xs.length := by omega
        have hpart : VRs C.st ρ l ((xs.drop f.offset).take n) := VRs.of_get (by simp [c1]; omega) (fun j b hb => by
          have hj : j < n := by have := (List.getElem?_eq_some_iff.1 hb).1; omega
          rw [c3 j hj] at hb
          rw [List.getElem?_take_of_lt hj, List.getElem?_drop]
          exact hxs.get hb)
        unfold readV at hrd
        cases g with
        | true =>
          simp only [if_true, Option.some.injEq] at hrd
          subst hrd
          refine Sim.of_run hr (x := .agg (xs.toArray.extract f.offset (f.offset + n))) ?_ ?_
          · simp only [Instr.field, asAgg, Sem.run_bind, run_underlying hu, Result.andThen_ok, hf, Sem.run_pure, part, run_isAgg hg, if_true, run_sizeOf hn]
          · simp only [VR]
            refine ⟨_, ?_, hpart⟩
            rw [List.extract_toArray, List.extract_eq_take_drop, Nat.add_sub_cancel_left]
        | false =>
          simp only [Bool.false_eq_true, if_false] at hrd
          cases l with
          | nil => simp at hrd
          | cons c l =>
            cases l with
            | cons c2 l => simp at hrd
            | nil =>
              simp only at hrd
              by_cases h1 : n = 1
              · rw [if_pos h1] at hrd; cases hrd
                obtain ⟨y, hy, hyv⟩ := hpart.get (i := 0) (by rfl)
                rw [List.getElem?_take_of_lt (by omega), List.getElem?_drop, Nat.add_zero] at hy
                refine Sim.of_run hr (x := y) ?_ hyv
                simp only [Instr.field, asAgg, Sem.run_bind, run_underlying hu, Result.andThen_ok, hf, Sem.run_pure, part, run_isAgg hg, Bool.false_eq_true, if_false]
                simp [hy]
              · rw [if_neg h1] at hrd; cases hrd

theorem sim_idxArr (hr : Rel C ρ h w) {s el : TypeId} {m n : Nat} {g : Bool} {v i r : AV} {x y : Value} (hu : P.underlying s = some (.array m el))
    (hg : isAggA P el = some g) (hn : szA P el = some n) (hv : VR C.st ρ v x) (hi : VR C.st ρ i y) (he : evOp (.idxArr g m n (.k v) (.k i)) t h = some (r, h')) :
    Sim C P ρ h w (Instr.index s x y) r h' := by
  cases v <;> simp only [evOp, Opd.ev, reduceCtorEq] at he
  case agg cs =>
    cases hj : idxA i m with
    | none => rw [hj] at he; cases he
    | some j =>
      rw [hj] at he
      simp only at he
      obtain ⟨kk, q, rfl, hq, hq0, hq1, hq2⟩ := idxA_sim (P := P) (w := w) hi hj
      cases hc : cut cs (j * n) n with
      | none => rw [hc] at he; cases he
      | some l =>
        rw [hc] at he
        simp only at he
        cases hrd : readV g n l with
        | none => rw [hrd] at he; cases he
        | some u =>
          rw [hrd] at he; cases he
          simp only [VR] at hv
          obtain ⟨xs, rfl, hxs⟩ := hv
          obtain ⟨c1, c2, c3⟩ := cut_get hc
          have hlx := hxs.length
          have hl2 : n = 0 ∨ j * n + n ≤ xs.length := by omega
          have hpart : VRs C.st ρ l ((xs.drop (j * n)).take n) := VRs.of_get (by simp [c1]; omega) (fun jj b hb => by
            have hj : jj < n := by have := (List.getElem?_eq_some_iff.1 hb).1; omega
            rw [c3 jj hj] at hb
            rw [List.getElem?_take_of_lt hj, List.getElem?_drop]
            exact hxs.get hb)
          unfold readV at hrd
          cases g with
          | true =>
            simp only [if_true, Option.some.injEq] at hrd
            subst hrd
            refine Sim.of_run hr (x := .agg (xs.toArray.extract (j * n) (j * n + n))) ?_ ?_
            · simp only [Instr.index, Sem.run_bind, hq, Result.andThen_ok, run_underlying hu]
              rw [Sem.run_ite, if_pos ⟨hq0, hq1⟩]
              simp only [Sem.run_bind, run_sizeOf hn, Result.andThen_ok, hq2, part, run_isAgg hg, if_true, Sem.run_pure]
            · simp only [VR]
              refine ⟨_, ?_, hpart⟩
              rw [List.extract_toArray, List.extract_eq_take_drop, Nat.add_sub_cancel_left]
          | false =>
            simp only [Bool.false_eq_true, if_false] at hrd
            cases l with
            | nil => simp at hrd
            | cons c l =>
              cases l with
              | cons c2 l => simp at hrd
              | nil =>
                simp only at hrd
                by_cases h1 : n = 1
                · rw [if_pos h1] at hrd; cases hrd
                  obtain ⟨y, hy, hyv⟩ := hpart.get (i := 0) (by rfl)
                  rw [List.getElem?_take_of_lt (by omega), List.getElem?_drop, Nat.add_zero] at hy
                  refine Sim.of_run hr (x := y) ?_ hyv
                  simp only [Instr.index, Sem.run_bind, hq, Result.andThen_ok, run_underlying hu]
                  rw [Sem.run_ite, if_pos ⟨hq0, hq1⟩]
                  simp only [Sem.run_bind, run_sizeOf hn, Result.andThen_ok, hq2, part, run_isAgg hg, Bool.false_eq_true, if_false, Sem.run_pure]
                  simp [hy]
                · rw [if_neg h1] at hrd; cases hrd
end
end Go.AM

/- SLICE EXPRESSIONS, LENGTHS, AGGREGATES, NEW SLICES. -/
namespace Go.AM
section
variable {C : Cx} {ρ : Pl} {h h' : Heap} {w : World} {P : Program} {t : Tm} {a : Act}

theorem bound_sim {v : AV} {x : Value} {m y j : Nat} {code : BoundsCode} (hv : VR C.st ρ v x) (hb : boundA v m = some j) (hy : m ≤ y) : (Instr.sliceBound x y code).run P w = .ok j w ∧ j ≤ m := by
  cases v <;> simp only [boundA, reduceCtorEq] at hb
  case int k n =>
    have hx := int_of hv
    subst hx
    by_cases hc : 0 ≤ n ∧ n ≤ (m : Int)
    · rw [if_pos hc] at hb; cases hb
      refine ⟨?_, by omega⟩
      simp only [Instr.sliceBound, asIntOf, Sem.run_bind, Sem.run_pure, Result.andThen_ok]
      rw [if_pos ⟨hc.1, by omega⟩]
      rfl
    · rw [if_neg hc] at hb; cases hb

/-- an operand that may lack -/
def OpR (st : Stab) (ρ : Pl) (t : Tm) : Option Opd → Option Value → Prop
  | none, x => x = none
  | some d, x => ∃ v, x = some v ∧ VR st ρ (d.ev t) v

theorem opdO_sim (hg : C.globOK) (ht : TR C.st ρ t a.tmps) {o : Option Operand} {d : Option Opd} (hx : opdO C.T o = some d) : OpR C.st ρ t d (o.map a.eval) := by
  cases o with
  | none => simp [opdO] at hx; subst hx; rfl
  | some o =>
    simp only [opdO, Option.map_eq_some_iff] at hx
    obtain ⟨d, hd, rfl⟩ := hx
    exact ⟨_, rfl, opd_sim hg ht hd⟩

theorem bounds_sim {lo hi mx : Option Opd} {vlo vhi vmx : Option Value} {isS : Bool} {len cap kn m hh l : Nat} {known : Option Nat}
    (hlo : OpR C.st ρ t lo vlo) (hhi : OpR C.st ρ t hi vhi) (hmx : OpR C.st ρ t mx vmx)
    (hm : (match mx with | none => m = cap ∧ kn ≤ cap | some o => boundA (o.ev t) known.get! = some m ∧ known.get! ≤ cap ∧ kn = m))
    (hnn : mx.isSome → hi.isSome) (hh1 : boundO t hi len kn = some hh) (hl1 : boundO t lo 0 hh = some l) :
    (Instr.sliceBounds isS len cap vlo vhi vmx).run P w = .ok (l, hh, m) w := by
  unfold Instr.sliceBounds
  cases mx with
  | none =>
    simp only [OpR] at hmx; subst hmx
    obtain ⟨rfl, hkc⟩ := hm
    simp only [Sem.run_bind, Sem.run_pure, Result.andThen_ok]
    cases hi with
    | none =>
      simp only [OpR] at hhi; subst hhi
      simp only [boundO, Option.some.injEq] at hh1; subst hh1
      simp only [Sem.run_bind, Sem.run_pure, Result.andThen_ok]
      cases lo with
      | none =>
        simp only [OpR] at hlo; subst hlo
        simp only [boundO, Option.some.injEq] at hl1; subst hl1
        simp only [Sem.run_bind, Sem.run_pure, Result.andThen_ok]
      | some d =>
        obtain ⟨v, rfl, hv⟩ := hlo
        simp only [boundO] at hl1
        have := (bound_sim (P := P) (w := w) (code := .sliceB) hv hl1 (Nat.le_refl _)).1
        simp only [Option.isSome_none, Bool.false_eq_true, if_false, Sem.run_bind, this, Result.andThen_ok, Sem.run_pure]
    | some d =>
      obtain ⟨v, rfl, hv⟩ := hhi
      simp only [boundO] at hh1
      have h2 := fun code => (bound_sim (P := P) (w := w) (code := code) hv hh1 hkc).1
      simp only [Sem.run_bind, h2, Result.andThen_ok]
      cases lo with
      | none =>
        simp only [OpR] at hlo; subst hlo
        simp only [boundO, Option.some.injEq] at hl1; subst hl1
        simp only [Sem.run_bind, Sem.run_pure, Result.andThen_ok]
      | some d =>
        obtain ⟨v, rfl, hv⟩ := hlo
        simp only [boundO] at hl1
        have := (bound_sim (P := P) (w := w) (code := .sliceB) hv hl1 (Nat.le_refl _)).1
        simp only [Option.isSome_none, Bool.false_eq_true, if_false, Sem.run_bind, this, Result.andThen_ok, Sem.run_pure]
  | some o =>
    obtain ⟨vm, rfl, hvm⟩ := hmx
    obtain ⟨hm1, hm2, rfl⟩ := hm
    have h0 := fun code => (bound_sim (P := P) (w := w) (code := code) hvm hm1 hm2).1
    simp only [Sem.run_bind, h0, Result.andThen_ok]
    cases hi with
    | none => simp at hnn
    | some d =>
      obtain ⟨v, rfl, hv⟩ := hhi
      simp only [boundO] at hh1
      have h2 := fun code => (bound_sim (P := P) (w := w) (code := code) hv hh1 (Nat.le_refl _)).1
      simp only [Sem.run_bind, h2, Result.andThen_ok]
      cases lo with
      | none =>
        simp only [OpR] at hlo; subst hlo
        simp only [boundO, Option.some.injEq] at hl1; subst hl1
        simp only [Sem.run_bind, Sem.run_pure, Result.andThen_ok]
      | some d =>
        obtain ⟨v, rfl, hv⟩ := hlo
        simp only [boundO] at hl1
        have := fun code => (bound_sim (P := P) (w := w) (code := code) hv hl1 (Nat.le_refl _)).1
        simp only [Sem.run_bind, this, Result.andThen_ok, Sem.run_pure]

theorem boundA_le {v : AV} {m j : Nat} (h : boundA v m = some j) : j ≤ m := by
  cases v <;> simp only [boundA, reduceCtorEq] at h
  split at h
  · cases h; omega
  · cases h

theorem boundO_le {o : Option Opd} {d m j : Nat} (h : boundO t o d m = some j) (hd : d ≤ m) : j ≤ m := by
  cases o with
  | none => simp [boundO] at h; omega
  | some o =>
    simp only [boundO] at h
    cases hv : o.ev t <;> rw [hv] at h <;> simp only [boundA, reduceCtorEq] at h
    by_cases hc : 0 ≤ ‹Int› ∧ ‹Int› ≤ (m : Int)
    · rw [if_pos hc] at h; cases h; omega
    · rw [if_neg hc] at h; cases h

theorem sim_sliceStr (hr : Rel C ρ h w) {ty : TypeId} {v r : AV} {x : Value} {s : List UInt8} {lo hi : Option Opd} {vlo vhi : Option Value} (hu : P.underlying ty = some .string) (hv : VR C.st ρ v x) (hs : v = .str s)
    (hlo : OpR C.st ρ t lo vlo) (hhi : OpR C.st ρ t hi vhi) (he : sliceStrA s t lo hi = some r) : Sim C P ρ h w (Instr.sliceAt ty x vlo vhi none) r h := by
  subst hs
  simp only [VR] at hv; subst hv
  simp only [sliceStrA] at he
  cases h1 : boundO t hi s.length s.length with
  | none => rw [h1] at he; cases he
  | some hh =>
    rw [h1] at he; simp only at he
    cases h2 : boundO t lo 0 hh with
    | none => rw [h2] at he; cases he
    | some l =>
      rw [h2] at he; cases he
      have hb := bounds_sim (P := P) (w := w) (isS := false) (len := s.length) (cap := s.length) (mx := none) (vmx := none) (kn := s.length) (m := s.length) (known := none) hlo hhi rfl ⟨rfl, Nat.le_refl _⟩ (by simp) h1 h2
      refine Sim.of_run hr (x := .string ⟨(s.toArray).extract l hh⟩) ?_ ?_
      · simp only [Instr.sliceAt, Sem.run_bind, run_underlying hu, Result.andThen_ok, Instr.slice, Option.isSome_none, Bool.false_eq_true, if_false]
        have hsz : (⟨s.toArray⟩ : ByteArray).size = s.length := by simp [ByteArray.size]
        simp only [hsz, hb, Result.andThen_ok, Sem.run_pure]
        congr 2
        apply ByteArray.ext
        simp [ByteArray.data_extract]
      · simp only [VR]
        congr 2
        rw [List.extract_toArray, List.extract_eq_take_drop]
        congr 1
        have := boundO_le h2 (by omega)
        rw [← List.drop_take]

theorem sim_sliceSl (hr : Rel C ρ h w) {ty el : TypeId} {e : Nat} {v r : AV} {x : Value} {lo hi mx : Option Opd} {vlo vhi vmx : Option Value} (hu : P.underlying ty = some (.slice el)) (hn : szA P el = some e) (hv : VR C.st ρ v x)
    (hlo : OpR C.st ρ t lo vlo) (hhi : OpR C.st ρ t hi vhi) (hmx : OpR C.st ρ t mx vmx) (hnn : mx.isSome → hi.isSome) (he0 : e ≠ 0) {X : Nat} (hX : extA h v e = some X) (he : sliceSlA e v t lo hi mx X = some r) : Sim C P ρ h w (Instr.sliceAt ty x vlo vhi vmx) r h := by
  have key : ∀ (b : Option Addr) (len cap l hh m : Nat), (Instr.sliceBounds true len cap vlo vhi vmx).run P w = .ok (l, hh, m) w →
      (Instr.sliceAt ty (.slice b len cap) vlo vhi vmx).run P w = .ok (.slice (if m = l then b else b.map (·.add (l * e))) (hh - l) (m - l)) w := fun b len cap l hh m hb => by
    simp only [Instr.sliceAt, Sem.run_bind, run_underlying hu, Result.andThen_ok, Instr.slice, hb, run_sizeOf hn, Sem.run_pure]
  cases v <;> simp only [sliceSlA, reduceCtorEq] at he
  case nilslice =>
    simp only [VR] at hv; subst hv
    cases h0 : boundO t mx 0 0 with
    | none => rw [h0] at he; simp at he
    | some m =>
      cases h1 : boundO t hi 0 0 with
      | none => rw [h0, h1] at he; simp at he
      | some hh =>
        cases h2 : boundO t lo 0 0 with
        | none => rw [h0, h1, h2] at he; simp at he
        | some l =>
          rw [h0, h1, h2] at he; cases he
          have e0 := boundO_le h0 (Nat.le_refl _)
          have e1 := boundO_le h1 (Nat.le_refl _)
          have e2 := boundO_le h2 (Nat.le_refl _)
          obtain rfl : m = 0 := by omega
          obtain rfl : hh = 0 := by omega
          obtain rfl : l = 0 := by omega
          refine Sim.of_run hr (key none 0 0 0 0 0 (bounds_sim (kn := 0) (known := some 0) hlo hhi hmx ?_ hnn h1 h2)) (by simp [VR])
          cases mx with
          | none => simp
          | some o => simp only [boundO] at h0; exact ⟨h0, by simp, rfl⟩
  case eslice =>
    simp only [VR] at hv
    obtain ⟨ad, k, rfl⟩ := hv
    cases h0 : boundO t mx 0 0 with
    | none => rw [h0] at he; simp at he
    | some m =>
      cases h1 : boundO t hi 0 0 with
      | none => rw [h0, h1] at he; simp at he
      | some hh =>
        cases h2 : boundO t lo 0 0 with
        | none => rw [h0, h1, h2] at he; simp at he
        | some l =>
          rw [h0, h1, h2] at he; cases he
          have e0 := boundO_le h0 (Nat.le_refl _)
          have e1 := boundO_le h1 (Nat.le_refl _)
          have e2 := boundO_le h2 (Nat.le_refl _)
          obtain rfl : m = 0 := by omega
          obtain rfl : hh = 0 := by omega
          obtain rfl : l = 0 := by omega
          have hb := bounds_sim (P := P) (w := w) (isS := true) (len := 0) (cap := k) (m := match mx with | none => k | some _ => 0) (kn := 0) (known := some 0) hlo hhi hmx (by
            cases mx with
            | none => simp
            | some o => simp only [boundO] at h0; exact ⟨h0, by simp, rfl⟩) hnn h1 h2
          refine Sim.of_run hr (key (some ad) 0 k 0 0 _ hb) ?_
          simp only [VR, Option.map_some, Nat.zero_mul]
          refine ⟨ad, (match mx with | none => k | some _ => 0) - 0, ?_⟩
          simp only [Addr.add, if_true, ite_self]
          cases mx <;> rfl
  case slice b o n cap e' =>
    by_cases hee : e' ≠ e
    · rw [if_pos hee] at he; cases he
    rw [if_neg hee] at he
    have hee' : e' = e := by simpa using hee
    subst hee'
    simp only [VR] at hv
    obtain ⟨B, tot, k, hb, rfl, hnk, hck⟩ := hv
    have hXk : cap = none → X ≤ k := by
      intro hcn
      subst hcn
      simp only at hck
      simp only [extA] at hX
      obtain ⟨_, _, ao, oo, g1, g2, g3⟩ := hr.dom b B tot hb
      split at hX
      · rename_i ty2 cs2 frz2 anc2 hf
        obtain ⟨_, hg⟩ := Heap.find_some.1 hf
        rw [hg] at g1; cases g1
        obtain ⟨xs, lo2, hi2, rfl, hm, hcr, _⟩ := g3
        have hcl := hcr.length
        simp only [Option.some.injEq] at hX
        have hX' : (cs2.length - o) / e' = X := hX
        have h2 := Nat.div_mul_le_self (cs2.length - o) e'
        rw [hX'] at h2
        refine Nat.le_of_mul_le_mul_right (c := e') ?_ (Nat.pos_of_ne_zero he0)
        omega
      · cases hX; exact Nat.zero_le _
      · cases hX
    have hkn : cap.getD (max n X) ≤ k ∧ cap.getD n ≤ k := by
      cases cap with
      | none => exact ⟨Nat.max_le.2 ⟨hnk, hXk rfl⟩, hnk⟩
      | some c => simp only at hck; exact ⟨by simp [hck], by simp [hck]⟩
    cases hmc : capA t cap n mx with
    | none => rw [hmc] at he; cases he
    | some cap' =>
      rw [hmc] at he
      simp only at he
      cases h1 : boundO t hi n (cap'.getD (max n X)) with
      | none => rw [h1] at he; cases he
      | some hh =>
        rw [h1] at he; simp only at he
        cases h2 : boundO t lo 0 hh with
        | none => rw [h2] at he; cases he
        | some l =>
          rw [h2] at he; simp only at he
          have hlh := boundO_le h2 (Nat.zero_le _)
          -- the model's m
          have hM : ∃ M, (Instr.sliceBounds true n k vlo vhi vmx).run P w = .ok (l, hh, M) w ∧ (∀ c, cap' = some c → M = c) ∧ (cap' = none → M = k ∧ cap = none) := by
            cases mx with
            | none =>
              simp only [capA, Option.some.injEq] at hmc; subst hmc
              refine ⟨k, bounds_sim (kn := cap.getD (max n X)) (known := none) hlo hhi hmx ⟨rfl, hkn.1⟩ hnn h1 h2, fun c hc => ?_, fun hc => ⟨rfl, hc⟩⟩
              subst hc; simpa using hck
            | some om =>
              simp only [capA, Option.map_eq_some_iff] at hmc
              obtain ⟨M, hM1, rfl⟩ := hmc
              refine ⟨M, bounds_sim (kn := M) (known := some (cap.getD n)) hlo hhi hmx ⟨hM1, hkn.2, rfl⟩ hnn (by simpa using h1) h2, fun c hc => by cases hc; rfl, fun hc => by cases hc⟩
          obtain ⟨M, hM1, hM2, hM3⟩ := hM
          have hrun := key (some ⟨B, o, none⟩) n k l hh M hM1
          by_cases hcl : cap' = some l
          · rw [if_pos hcl] at he; cases he
            have hMl := hM2 l hcl
            refine Sim.of_run hr hrun ?_
            rw [if_pos hMl]
            have hhl : hh ≤ l := by
              have := h1
              rw [hcl] at this
              cases hi with
              | none =>
                simp only [boundO, Option.some.injEq] at this
                subst this
                cases mx with
                | none => simp only [capA, Option.some.injEq] at hmc; subst hmc; rw [hcl] at hck; simp only at hck; omega
                | some om => simp at hnn
              | some d =>
                simp only [boundO, Option.getD_some] at this
                exact boundA_le this
            simp only [VR]
            refine ⟨B, tot, M - l, hb, rfl, by omega, (by first | omega | (simp; omega))⟩
          · rw [if_neg hcl] at he
            cases cap' with
            | some c =>
              simp only at he; cases he
              have hMc := hM2 c rfl
              refine Sim.of_run hr hrun ?_
              rw [if_neg (by intro e; apply hcl; rw [← e, hMc])]
              simp only [Option.map_some, addr_add]
              simp only [VR]
              have hhc : hh ≤ c := by
                cases hi with
                | none =>
                  simp only [boundO, Option.some.injEq] at h1
                  subst h1
                  cases mx with
                  | none => simp only [capA, Option.some.injEq] at hmc; subst hmc; simp only at hck; omega
                  | some om => simp at hnn
                | some d =>
                  simp only [boundO, Option.getD_some] at h1
                  exact boundA_le h1
              exact ⟨B, tot, M - l, hb, rfl, by omega, (by first | omega | (simp; omega))⟩
            | none =>
              obtain ⟨rfl, rfl⟩ := hM3 rfl
              simp only at he hck
              have hXM := hXk rfl
              have hhn : hh ≤ max n X := boundO_le h1 (Nat.le_max_left _ _)
              by_cases hln : l < max n X
              · rw [if_pos hln] at he; cases he
                refine Sim.of_run hr hrun ?_
                rw [if_neg (by omega)]
                simp only [Option.map_some, addr_add]
                simp only [VR]
                refine ⟨B, tot, M - l, hb, rfl, by omega, ?_⟩
                rw [Nat.sub_mul]
                have : l * e' ≤ M * e' := Nat.mul_le_mul_right _ (by omega)
                omega
              · rw [if_neg hln] at he
                by_cases hl0 : l = 0
                · rw [if_pos hl0] at he; cases he
                  subst hl0
                  refine Sim.of_run hr hrun ?_
                  simp only [VR]
                  refine ⟨B, tot, M - 0, hb, ?_, by omega, by simpa using hck⟩
                  split
                  · rfl
                  · simp [addr_add]
                · rw [if_neg hl0] at he; cases he
                  refine Sim.of_run hr hrun ?_
                  simp only [VR]
                  have : hh - l = 0 := by omega
                  rw [this]
                  split
                  · exact ⟨_, _, rfl⟩
                  · exact ⟨_, _, rfl⟩
  case pslice cs o n cap =>
    simp only [VR] at hv
    obtain ⟨B, d, k, rfl, hnk, hck, hp⟩ := hv
    have hkn : cap.getD n ≤ k := by
      cases cap with
      | none => exact hnk
      | some c => simp only at hck; simp [hck]
    cases hmc : capA t cap n mx with
    | none => rw [hmc] at he; cases he
    | some cap' =>
      rw [hmc] at he
      simp only at he
      cases h1 : boundO t hi n (min (cap'.getD n) n) with
      | none => rw [h1] at he; cases he
      | some hh =>
        rw [h1] at he; simp only at he
        cases h2 : boundO t lo 0 hh with
        | none => rw [h2] at he; cases he
        | some l =>
          rw [h2] at he; simp only at he
          have hlh := boundO_le h2 (Nat.zero_le _)
          have hhn : hh ≤ n := by
            cases hi with
            | none => simp only [boundO, Option.some.injEq] at h1; omega
            | some dd =>
              simp only [boundO] at h1
              have := boundA_le h1
              omega
          have hM : ∃ M, (Instr.sliceBounds true n k vlo vhi vmx).run P w = .ok (l, hh, M) w ∧ (∀ c, cap' = some c → M = c) ∧ (cap' = none → M = k ∧ cap = none) ∧ hh ≤ M := by
            cases mx with
            | none =>
              simp only [capA, Option.some.injEq] at hmc; subst hmc
              refine ⟨k, bounds_sim (kn := min (cap.getD n) n) (known := none) hlo hhi hmx ⟨rfl, by omega⟩ hnn h1 h2, fun c hc => ?_, fun hc => ⟨rfl, hc⟩, by omega⟩
              subst hc; simpa using hck
            | some om =>
              simp only [capA, Option.map_eq_some_iff] at hmc
              obtain ⟨M, hM1, rfl⟩ := hmc
              cases hi with
              | none => simp at hnn
              | some dd =>
                simp only [boundO, Option.getD_some] at h1
                obtain ⟨v, rfl, hv⟩ := hhi
                have hb1 := (bound_sim (P := P) (w := w) (code := .index) (y := M) hv h1 (Nat.min_le_left _ _)).2
                have h1' : boundO t (some dd) n M = some hh := by
                  simp only [boundO]
                  cases hdv : dd.ev t <;> rw [hdv] at h1 <;> simp only [boundA, reduceCtorEq] at h1 ⊢
                  rename_i kk nn
                  by_cases hc : 0 ≤ nn ∧ nn ≤ ((min M n : Nat) : Int)
                  · rw [if_pos hc] at h1; rw [if_pos ⟨hc.1, by omega⟩]; exact h1
                  · rw [if_neg hc] at h1; cases h1
                refine ⟨M, bounds_sim (kn := M) (known := some (cap.getD n)) hlo (show OpR C.st ρ t (some dd) (some v) from ⟨v, rfl, hv⟩) hmx ⟨hM1, hkn, rfl⟩ hnn h1' h2, (fun c hc => by cases hc; rfl), (fun hc => by cases hc), by omega⟩
          obtain ⟨M, hM1, hM2, hM3, hM4⟩ := hM
          have hrun := key (some ⟨B, d + o, none⟩) n k l hh M hM1
          by_cases hcl : cap' = some l
          · rw [if_pos hcl] at he; cases he
            have hMl := hM2 l hcl
            refine Sim.of_run hr hrun ?_
            rw [if_pos hMl]
            simp only [VR]
            exact ⟨B, d, M - l, rfl, by omega, (by first | omega | (simp; omega)), hp⟩
          · rw [if_neg hcl] at he
            cases cap' with
            | some c =>
              simp only at he; cases he
              have hMc := hM2 c rfl
              refine Sim.of_run hr hrun ?_
              rw [if_neg (by intro e; apply hcl; rw [← e, hMc])]
              simp only [Option.map_some, addr_add]
              simp only [VR]
              exact ⟨B, d, M - l, by rw [Nat.add_assoc], by omega, (by first | omega | (simp; omega)), hp⟩
            | none =>
              obtain ⟨rfl, rfl⟩ := hM3 rfl
              simp only at he
              by_cases hln : l < n
              · rw [if_pos hln] at he; cases he
                refine Sim.of_run hr hrun ?_
                rw [if_neg (by omega)]
                simp only [Option.map_some, addr_add]
                simp only [VR]
                exact ⟨B, d, M - l, by rw [Nat.add_assoc], by omega, trivial, hp⟩
              · rw [if_neg hln] at he
                by_cases hl0 : l = 0
                · rw [if_pos hl0] at he; cases he
                  subst hl0
                  refine Sim.of_run hr hrun ?_
                  simp only [VR]
                  refine ⟨B, d, M - 0, ?_, by omega, trivial, hp⟩
                  split
                  · rfl
                  · simp [addr_add]
                · rw [if_neg hl0] at he; cases he
                  refine Sim.of_run hr hrun ?_
                  simp only [VR]
                  have : hh - l = 0 := by omega
                  rw [this]
                  split
                  · exact ⟨_, _, rfl⟩
                  · exact ⟨_, _, rfl⟩
end
end Go.AM

/- COMPARISON AND ARITHMETIC. -/
namespace Go.AM
section
variable {C : Cx} {ρ : Pl} {h h' : Heap} {w : World} {P : Program} {t : Tm} {a : Act}

theorem wrapA_eq (k : IntKind) (n : Int) : wrapA k n = k.wrap n := by
  unfold wrapA
  cases hk : inK k n with
  | false => rfl
  | true =>
    simp only [cond_true]
    cases k <;> simp only [inK, Bool.and_eq_true, decide_eq_true_eq] at hk
    · exact (IntWalk.i8_in n hk).symm
    · exact (IntWalk.i16_in n hk).symm
    · exact (IntWalk.i32_in n hk).symm
    · exact (IntWalk.i64_in n hk).symm
    · exact (IntWalk.u8_in n hk).symm
    · exact (IntWalk.u16_in n hk).symm
    · exact (IntWalk.u32_in n hk).symm
    · exact (IntWalk.u64_in n hk).symm

theorem nbeq (a b : Nat) : Nat.beq a b = (a == b) := by rw [Bool.eq_iff_iff, Nat.beq_eq]; simp

theorem u8_toNat_beq (a b : UInt8) : (a.toNat == b.toNat) = (a == b) := by
  rw [Bool.eq_iff_iff]; simp [UInt8.toNat_inj]

theorem beqB_eq : ∀ (x y : List UInt8), beqB x y = (x == y)
  | [], [] => rfl
  | [], _ :: _ => rfl
  | _ :: _, [] => rfl
  | a :: x, b :: y => by
    simp only [beqB, List.cons_beq_cons, beqB_eq x y, nbeq, u8_toNat_beq]
    cases (a == b) <;> rfl

theorem ltB_eq : ∀ (x y : List UInt8), ltB x y = Op.bytesLess x y
  | _, [] => by cases ‹List UInt8› <;> rfl
  | [], _ :: _ => rfl
  | a :: x, b :: y => by
    have h1 : Nat.blt a.toNat b.toNat = decide (a < b) := by
      rw [Bool.eq_iff_iff]; simp [Nat.blt_eq, UInt8.lt_iff_toNat_lt]
    simp only [ltB, Op.bytesLess, h1, nbeq, u8_toNat_beq, ltB_eq x y]
    cases decide (a < b) <;> cases (a == b) <;> simp

theorem prim_sim {p : PK} {v u : AV} {x y : Value} {r : Bool} {d : Nat} {ty : TypeId} (hp : pkOf P ty = some p) (hv : VR C.st ρ v x) (hu : VR C.st ρ u y) (he : primEq p v u = some r) :
    (Op.equalIn (d + 1) ty x y).run P w = .ok r w := by
  unfold pkOf at hp
  cases hty : P.underlying ty with
  | none => rw [hty] at hp; cases hp
  | some de =>
    rw [hty] at hp
    cases de <;> simp only [Option.some.injEq, reduceCtorEq] at hp <;> subst hp <;> cases v <;> cases u <;> simp only [primEq, reduceCtorEq] at he
    · simp only [VR] at hv hu; subst hv; subst hu
      cases he
      exact run_equalIn_bool' w d ty _ _ hty
    · rename_i j n k m
      simp only [VR] at hv hu; subst hv; subst hu
      by_cases hjk : j = k
      · rw [if_pos hjk] at he; cases he; subst hjk
        simp [Op.equalIn, run_underlying hty]
      · rw [if_neg hjk] at he; cases he
    · simp only [VR] at hv hu; subst hv; subst hu
      cases he
      rw [run_equalIn_string w d ty _ _ hty]
      simp [beqB_eq]

theorem part_sim {ty : TypeId} {xs : List Value} {i : Nat} {x : Value} (hp : (pkOf P ty).isSome) (hx : xs[i]? = some x) : (part ty xs.toArray i).run P w = .ok x w := by
  have hg : isAggA P ty = some false := by
    unfold pkOf at hp; unfold isAggA
    cases hty : P.underlying ty with
    | none => rw [hty] at hp; simp at hp
    | some de => rw [hty] at hp; cases de <;> simp at hp <;> rfl
  simp only [part, Sem.run_bind, run_isAgg hg, Result.andThen_ok, Bool.false_eq_true, if_false]
  simp [hx]

theorem flatEq_len : ∀ {ks : List PK} {u v : List AV} {r : Bool}, flatEq ks u v = some r → u.length = ks.length ∧ v.length = ks.length
  | [], u, v, r, h => by cases u <;> cases v <;> simp [flatEq] at h ⊢
  | p :: ks, u, v, r, h => by
    cases u with
    | nil => simp [flatEq] at h
    | cons u0 u =>
      cases v with
      | nil => simp [flatEq] at h
      | cons v0 v =>
        simp only [flatEq] at h
        cases h1 : primEq p u0 v0 with
        | none => rw [h1] at h; simp at h
        | some r1 =>
          cases h2 : flatEq ks u v with
          | none => rw [h1, h2] at h; simp at h
          | some r2 => obtain ⟨l1, l2⟩ := flatEq_len h2; simp [l1, l2]

theorem flatEq_append : ∀ {k1 k2 : List PK} {u v : List AV} {r : Bool}, flatEq (k1 ++ k2) u v = some r →
    ∃ r1 r2, flatEq k1 (u.take k1.length) (v.take k1.length) = some r1 ∧ flatEq k2 (u.drop k1.length) (v.drop k1.length) = some r2 ∧ r = (r1 && r2)
  | [], k2, u, v, r, h => ⟨true, r, rfl, h, by simp⟩
  | p :: k1, k2, u, v, r, h => by
    cases u with
    | nil => simp [flatEq] at h
    | cons u0 u =>
      cases v with
      | nil => simp [flatEq] at h
      | cons v0 v =>
        simp only [List.cons_append, flatEq] at h
        cases h1 : primEq p u0 v0 with
        | none => rw [h1] at h; simp at h
        | some r1 =>
          cases h2 : flatEq (k1 ++ k2) u v with
          | none => rw [h1, h2] at h; simp at h
          | some r2 =>
            rw [h1, h2] at h
            simp only [Option.some.injEq] at h
            subst h
            obtain ⟨s1, s2, g1, g2, rfl⟩ := flatEq_append h2
            exact ⟨r1 && s1, s2, by simp [flatEq, h1, g1], by simpa using g2, by simp [Bool.and_assoc]⟩

/-- cells of the model behind i stand for abstract ones -/
def CS (st : Stab) (ρ : Pl) (u : List AV) (xs : List Value) (i : Nat) : Prop := ∀ (j : Nat) (a : AV), u[j]? = some a → ∃ x, xs[i + j]? = some x ∧ VR st ρ a x

theorem CS.take {st : Stab} {u : List AV} {xs : List Value} {i : Nat} (h : CS st ρ u xs i) (n : Nat) : CS st ρ (u.take n) xs i := fun j a ha => by
  rw [List.getElem?_take] at ha
  split at ha
  · exact h j a ha
  · cases ha

theorem CS.drop {st : Stab} {u : List AV} {xs : List Value} {i : Nat} (h : CS st ρ u xs i) (n : Nat) : CS st ρ (u.drop n) xs (i + n) := fun j a ha => by
  rw [List.getElem?_drop] at ha
  obtain ⟨x, h1, h2⟩ := h _ a ha
  exact ⟨x, by rw [← h1]; congr 1; omega, h2⟩

theorem CS.cut {st : Stab} {u : List AV} {xs : List Value} {i m : Nat} (h : CS st ρ u xs i) (hm : u.length ≤ m) : CS st ρ u ((xs.drop i).take m) 0 := fun j a ha => by
  obtain ⟨x, h1, h2⟩ := h j a ha
  have hj := (List.getElem?_eq_some_iff.1 ha).1
  exact ⟨x, by rw [List.getElem?_take, if_pos (by omega), List.getElem?_drop, Nat.zero_add]; exact h1, h2⟩

theorem CS.of_VRs {st : Stab} {u : List AV} {xs : List Value} (h : VRs st ρ u xs) : CS st ρ u xs 0 := fun j a ha => by rw [Nat.zero_add]; exact h.get ha

theorem part_agg {ty : TypeId} {xs : List Value} {i m : Nat} (hg : isAggA P ty = some true) (hn : szA P ty = some m) : (part ty xs.toArray i).run P w = .ok (.agg ((xs.drop i).take m).toArray) w := by
  simp only [part, Sem.run_bind, run_isAgg hg, Result.andThen_ok, if_true, run_sizeOf hn, Sem.run_pure]
  congr 2
  apply Array.ext'
  rw [Array.toList_extract]
  simp [List.extract]

theorem isAgg_of_pk {ty : TypeId} {p : PK} (hp : pkOf P ty = some p) : isAggA P ty = some false := by
  unfold pkOf at hp; unfold isAggA
  cases hty : P.underlying ty with
  | none => rw [hty] at hp; simp at hp
  | some de => rw [hty] at hp; cases de <;> simp at hp <;> rfl

theorem flatF_agg {n : Nat} {ty : TypeId} {ks : List PK} (hf : flatF P n ty = some ks) (hp : pkOf P ty = none) : isAggA P ty = some true := by
  cases n with
  | zero => simp [flatF] at hf
  | succ n =>
    simp only [flatF, hp] at hf
    unfold isAggA
    cases hty : P.underlying ty with
    | none => rw [hty] at hf; simp at hf
    | some de => rw [hty] at hf; cases de <;> simp at hf <;> rfl

/-- parts of a type are compared as their cells are -/
def EqF (C : Cx) (ρ : Pl) (w : World) (P : Program) (dd : Nat) (ty : TypeId) (ks : List PK) : Prop := ∀ (xs ys : List Value) (i : Nat) (u v : List AV) (r : Bool), flatEq ks u v = some r → CS C.st ρ u xs i → CS C.st ρ v ys i →
  ∃ a b, (part ty xs.toArray i).run P w = .ok a w ∧ (part ty ys.toArray i).run P w = .ok b w ∧ (Op.equalIn dd ty a b).run P w = .ok r w

theorem eqFields_F {dd : Nat} {F : TypeId → Option (List PK)} {xs ys : List Value} (hF : ∀ ty k, F ty = some k → szA P ty = some k.length → EqF C ρ w P dd ty k) : ∀ {fs : List Field} {i : Nat} {ks : List PK} {u v : List AV} {r : Bool},
    fieldsF F (szA P) i fs = some ks → flatEq ks u v = some r → CS C.st ρ u xs i → CS C.st ρ v ys i → (Op.eqFields dd xs.toArray ys.toArray fs).run P w = .ok r w
  | [], i, ks, u, v, r, hk, he, _, _ => by
    simp only [fieldsF, Option.some.injEq] at hk; subst hk
    cases u <;> cases v <;> simp [flatEq] at he
    subst he
    simp [Op.eqFields]
  | f :: fs, i, ks, u, v, r, hk, he, hx, hy => by
    simp only [fieldsF] at hk
    by_cases hc : f.name ≠ "_" ∧ f.offset = i
    · rw [if_pos hc] at hk
      cases hp : F f.type with
      | none => rw [hp] at hk; simp at hk
      | some k1 =>
        rw [hp] at hk
        simp only at hk
        by_cases hs : szA P f.type = some k1.length
        · rw [if_pos hs] at hk
          cases hps : fieldsF F (szA P) (i + k1.length) fs with
          | none => rw [hps] at hk; simp at hk
          | some k2 =>
            rw [hps] at hk; cases hk
            obtain ⟨r1, r2, h1, h2, rfl⟩ := flatEq_append he
            obtain ⟨a, b, e1, e2, e3⟩ := hF _ _ hp hs xs ys i _ _ _ h1 (hx.take _) (hy.take _)
            simp only [Op.eqFields]
            rw [if_pos hc.1, hc.2]
            simp only [Sem.run_bind, e1, e2, Result.andThen_ok, e3]
            cases r1 with
            | false => simp
            | true =>
              simp only [Bool.not_true, Bool.false_eq_true, if_false, Bool.true_and]
              exact eqFields_F hF hps h2 (hx.drop _) (hy.drop _)
        · rw [if_neg hs] at hk; cases hk
    · rw [if_neg hc] at hk; cases hk

theorem eqItems_F {dd m : Nat} {e : TypeId} {ks : List PK} {xs ys : List Value} (hF : EqF C ρ w P dd e ks) (hm : ks.length = m) : ∀ {n i : Nat} {u v : List AV} {r : Bool},
    flatEq (List.flatten (List.replicate n ks)) u v = some r → CS C.st ρ u xs (i * m) → CS C.st ρ v ys (i * m) → (Op.eqItems dd e m xs.toArray ys.toArray (List.range' i n)).run P w = .ok r w
  | 0, i, u, v, r, he, _, _ => by
    simp only [List.replicate_zero, List.flatten_nil] at he
    cases u <;> cases v <;> simp [flatEq] at he
    subst he
    simp [Op.eqItems]
  | n + 1, i, u, v, r, he, hx, hy => by
    rw [List.replicate_succ, List.flatten_cons] at he
    obtain ⟨r1, r2, h1, h2, rfl⟩ := flatEq_append he
    obtain ⟨a, b, e1, e2, e3⟩ := hF xs ys (i * m) _ _ _ h1 (hx.take _) (hy.take _)
    rw [List.range'_succ]
    simp only [Op.eqItems, Sem.run_bind, e1, e2, Result.andThen_ok, e3]
    cases r1 with
    | false => simp
    | true =>
      simp only [Bool.not_true, Bool.false_eq_true, if_false, Bool.true_and]
      have hi : i * m + ks.length = (i + 1) * m := by rw [hm, Nat.add_mul]; omega
      exact eqItems_F hF hm h2 (by rw [← hi]; exact hx.drop _) (by rw [← hi]; exact hy.drop _)

theorem flatF_part {d n : Nat} {ty : TypeId} {ks : List PK} (hf : flatF P (n + 1) ty = some ks) (hs : szA P ty = some ks.length)
    (hA : isAggA P ty = some true → ∀ {xs ys : List Value} {u v : List AV} {r : Bool}, flatEq ks u v = some r → CS C.st ρ u xs 0 → CS C.st ρ v ys 0 → (Op.equalIn (d + (n + 1)) ty (.agg xs.toArray) (.agg ys.toArray)).run P w = .ok r w) :
    EqF C ρ w P (d + (n + 1)) ty ks := by
  intro xs ys i u v r he hx hy
  cases hp : pkOf P ty with
  | some p =>
    simp only [flatF, hp, Option.some.injEq] at hf
    subst hf
    obtain ⟨l1, l2⟩ := flatEq_len he
    match u, v, l1, l2 with
    | [u0], [v0], _, _ =>
      obtain ⟨x, hx1, hx2⟩ := hx 0 u0 rfl
      obtain ⟨y, hy1, hy2⟩ := hy 0 v0 rfl
      rw [Nat.add_zero] at hx1 hy1
      simp only [flatEq] at he
      cases hq : primEq p u0 v0 with
      | none => rw [hq] at he; simp at he
      | some r1 =>
        rw [hq] at he
        simp only [Bool.and_true, Option.some.injEq] at he
        subst he
        exact ⟨x, y, part_sim (by rw [hp]; rfl) hx1, part_sim (by rw [hp]; rfl) hy1, prim_sim hp hx2 hy2 hq⟩
  | none =>
    have hg := flatF_agg hf hp
    obtain ⟨l1, l2⟩ := flatEq_len he
    exact ⟨_, _, part_agg hg hs, part_agg hg hs, hA hg he (hx.cut (by omega)) (hy.cut (by omega))⟩

theorem flatF_sim : ∀ {n d : Nat} {ty : TypeId} {ks : List PK}, flatF P n ty = some ks → isAggA P ty = some true → ∀ {xs ys : List Value} {u v : List AV} {r : Bool}, flatEq ks u v = some r → CS C.st ρ u xs 0 → CS C.st ρ v ys 0 →
    (Op.equalIn (d + n) ty (.agg xs.toArray) (.agg ys.toArray)).run P w = .ok r w
  | 0, d, ty, ks, hf, _, xs, ys, u, v, r, _, _, _ => by simp [flatF] at hf
  | n + 1, d, ty, ks, hf, hg, xs, ys, u, v, r, he, hx, hy => by
    have hp : pkOf P ty = none := by
      cases hp : pkOf P ty with
      | none => rfl
      | some p => rw [isAgg_of_pk hp] at hg; cases hg
    have ih : ∀ ty k, flatF P n ty = some k → szA P ty = some k.length → EqF C ρ w P (d + n) ty k := fun ty k h1 h2 => by
      cases n with
      | zero => simp [flatF] at h1
      | succ n => exact flatF_part h1 h2 (fun hg => flatF_sim h1 hg)
    simp only [flatF, hp] at hf
    cases hty : P.underlying ty with
    | none => rw [hty] at hf; simp at hf
    | some de =>
      rw [hty] at hf
      cases de <;> simp only [reduceCtorEq] at hf
      case struct fs =>
        by_cases hst : P.stoodInHeld ty = true
        · rw [if_pos hst] at hf; cases hf
        · rw [if_neg hst] at hf
          have hfs : P.fieldsOf ty = fs := by simp [Program.fieldsOf, hty]
          rw [show d + (n + 1) = (d + n) + 1 from rfl, run_equalIn_struct w (d + n) ty _ _ (by rw [hfs]; exact hty) (by simpa using hst), hfs]
          exact eqFields_F ih hf he hx hy
      case array len e =>
        split at hf
        · rename_i k1 m h1 h2
          by_cases hl : k1.length = m
          · rw [if_pos hl] at hf; cases hf
            obtain ⟨i, hi⟩ : ∃ i, P.info? e = some i := by
              unfold szA at h2
              cases hi : P.info? e with
              | none => rw [hi] at h2; cases h2
              | some i => exact ⟨i, rfl⟩
            have hc : P.cellsOf e = m := by unfold szA at h2; unfold Program.cellsOf; rw [h2]; rfl
            rw [show d + (n + 1) = (d + n) + 1 from rfl, run_equalIn_array w (d + n) _ _ hty hi, hc, List.range_eq_range']
            exact eqItems_F (ih e k1 h1 (by rw [h2, hl])) hl he (by rw [Nat.zero_mul]; exact hx) (by rw [Nat.zero_mul]; exact hy)
          · rw [if_neg hl] at hf; cases hf
        · cases hf

theorem flatT_facts {ty : TypeId} {ks : List PK} (hf : flatT P ty = some ks) : isAggA P ty = some true ∧ P.eqGuardType P.depth ty = false ∧ flatF P 8 ty = some ks ∧ ∃ de, P.underlying ty = some de ∧ ((∃ fs, de = .struct fs) ∨ ∃ n e, de = .array n e) := by
  unfold flatT at hf
  by_cases hg : isAggA P ty = some true
  · rw [if_pos hg] at hf
    by_cases hc : P.eqGuardType P.depth ty = true
    · rw [if_pos hc] at hf; cases hf
    · rw [if_neg hc] at hf
      refine ⟨hg, by simpa using hc, hf, ?_⟩
      unfold isAggA at hg
      cases hty : P.underlying ty with
      | none => rw [hty] at hg; cases hg
      | some de => rw [hty] at hg; cases de <;> simp only [reduceCtorEq, Option.some.injEq, Bool.false_eq_true] at hg <;> simp
  · rw [if_neg hg] at hf; cases hf

theorem flat_sim {ty : TypeId} {ks : List PK} {u v : List AV} {x y : Value} {r : Bool} {d : Nat} (hf : flatT P ty = some ks) (hu : VR C.st ρ (.agg u) x) (hv : VR C.st ρ (.agg v) y) (he : flatEq ks u v = some r) :
    (Op.equalIn (d + 8) ty x y).run P w = .ok r w := by
  obtain ⟨h1, h2, h3, _⟩ := flatT_facts hf
  simp only [VR] at hu hv
  obtain ⟨xs, rfl, hxs⟩ := hu
  obtain ⟨ys, rfl, hys⟩ := hv
  exact flatF_sim h3 h1 he (CS.of_VRs hxs) (CS.of_VRs hys)

theorem key_sim {ty : TypeId} {kk : KeyK} {u v : AV} {x y : Value} {r : Bool} {d : Nat} (hk : keyK P ty = some kk) (hu : VR C.st ρ u x) (hv : VR C.st ρ v y) (he : keyEq kk u v = some r) :
    (Op.equalIn (d + 8) ty x y).run P w = .ok r w := by
  unfold keyK at hk
  cases hp : pkOf P ty with
  | some p =>
    rw [hp] at hk; cases hk
    simp only [keyEq] at he
    exact prim_sim hp hu hv he
  | none =>
    rw [hp] at hk
    simp only [Option.map_eq_some_iff] at hk
    obtain ⟨ks, hks, rfl⟩ := hk
    cases u <;> cases v <;> simp only [keyEq, reduceCtorEq] at he
    exact flat_sim hks hu hv he

theorem pkIn_mem {ty : Nat} {p : PK} : ∀ {l : List (Nat × PK)}, pkIn ty l = some p → (ty, p) ∈ l
  | [], h => by simp [pkIn] at h
  | (u, q) :: l, h => by
    simp only [pkIn, nbeq] at h
    by_cases e : u = ty
    · subst e; simp at h; subst h; simp
    · have : (u == ty) = false := by simpa using e
      rw [this] at h
      exact List.mem_cons_of_mem _ (pkIn_mem h)

theorem oks_mem {ty : Nat} {p : PK} : ∀ {l : List Nat}, (ty, p) ∈ oksOf P l → pkOf P ty = some p ∧ ∃ i, P.info? ty = some i ∧ i.comparable = true
  | [], h => by simp [oksOf] at h
  | u :: l, h => by
    simp only [oksOf] at h
    cases hp : pkOf P u with
    | none => rw [hp] at h; exact oks_mem h
    | some q =>
      cases hi : P.info? u with
      | none => rw [hp, hi] at h; exact oks_mem h
      | some i =>
        rw [hp, hi] at h
        simp only at h
        by_cases hc : i.comparable = true
        · rw [if_pos hc] at h
          rcases List.mem_cons.1 h with h | h
          · cases h; exact ⟨hp, i, hi, hc⟩
          · exact oks_mem h
        · rw [if_neg hc] at h; exact oks_mem h

/-- the comparison that is the type's own -/
def eqv (op : BinOp) (ty : TypeId) (x y : Value) : Sem Value :=
  match op with
  | .eql => do pure (.bool (← Op.equal ty x y))
  | _ => do pure (.bool (!(← Op.equal ty x y)))

theorem ein_ptr_l {ty e : TypeId} (d : Nat) (hty : P.underlying ty = some (.pointer e)) (b : Option Addr) : (Op.equalIn (d + 1) ty (.pointer none) (.pointer b)).run P w = .ok b.isNone w := by
  simp [Op.equalIn, run_underlying hty]
theorem ein_ptr_r {ty e : TypeId} (d : Nat) (hty : P.underlying ty = some (.pointer e)) (b : Addr) : (Op.equalIn (d + 1) ty (.pointer (some b)) (.pointer none)).run P w = .ok false w := by
  simp [Op.equalIn, run_underlying hty]
theorem ein_ptr_same {ty e : TypeId} {n : Nat} (d : Nat) (hty : P.underlying ty = some (.pointer e)) (hn : szA P e = some n) (hn0 : n ≠ 0) (B o o' : Nat) :
    (Op.equalIn (d + 1) ty (.pointer (some ⟨B, o, none⟩)) (.pointer (some ⟨B, o', none⟩))).run P w = .ok (Nat.beq o o') w := by
  simp only [Op.equalIn, Sem.run_bind, run_underlying hty, Result.andThen_ok, run_sizeOf hn, ne_eq, hn0, not_false_eq_true, if_true, sameAddr, beq_self_eq_true, Sem.run_pure]
  congr 1
  rw [nbeq, Bool.eq_iff_iff]; simp
theorem ein_slice_l {ty e : TypeId} (d : Nat) (hty : P.underlying ty = some (.slice e)) (b : Option Addr) (n k n' k' : Nat) : (Op.equalIn (d + 1) ty (.slice none n k) (.slice b n' k')).run P w = .ok b.isNone w := by
  simp [Op.equalIn, run_underlying hty]
theorem ein_slice_r {ty e : TypeId} (d : Nat) (hty : P.underlying ty = some (.slice e)) (b : Addr) (n k n' k' : Nat) : (Op.equalIn (d + 1) ty (.slice (some b) n k) (.slice none n' k')).run P w = .ok false w := by
  simp [Op.equalIn, run_underlying hty]
theorem ein_func_l {ty : TypeId} {a b : Array TypeId} {c : Bool} (d : Nat) (hty : P.underlying ty = some (.func a b c)) (f : Fn) (x y : Array Value) : (Op.equalIn (d + 1) ty .nilFunc (.func f x y)).run P w = .ok false w := by
  simp [Op.equalIn, run_underlying hty]
theorem ein_func_r {ty : TypeId} {a b : Array TypeId} {c : Bool} (d : Nat) (hty : P.underlying ty = some (.func a b c)) (f : Fn) (x y : Array Value) : (Op.equalIn (d + 1) ty (.func f x y) .nilFunc).run P w = .ok false w := by
  simp [Op.equalIn, run_underlying hty]
theorem ein_func_n {ty : TypeId} {a b : Array TypeId} {c : Bool} (d : Nat) (hty : P.underlying ty = some (.func a b c)) : (Op.equalIn (d + 1) ty .nilFunc .nilFunc).run P w = .ok true w := by
  simp [Op.equalIn, run_underlying hty]
theorem ein_if_nn {ty : TypeId} {ms : Array (String × TypeId)} (d : Nat) (hty : P.underlying ty = some (.interface ms)) : (Op.equalIn (d + 1) ty .nilIface .nilIface).run P w = .ok true w := by
  simp [Op.equalIn, run_underlying hty]
theorem ein_if_l {ty : TypeId} {ms : Array (String × TypeId)} (d : Nat) (hty : P.underlying ty = some (.interface ms)) (u : TypeId) (x : Value) : (Op.equalIn (d + 1) ty .nilIface (.iface u x)).run P w = .ok false w := by
  simp [Op.equalIn, run_underlying hty]
theorem ein_if_r {ty : TypeId} {ms : Array (String × TypeId)} (d : Nat) (hty : P.underlying ty = some (.interface ms)) (u : TypeId) (x : Value) : (Op.equalIn (d + 1) ty (.iface u x) .nilIface).run P w = .ok false w := by
  simp [Op.equalIn, run_underlying hty]
theorem ein_if_ne {ty : TypeId} {ms : Array (String × TypeId)} (d : Nat) (hty : P.underlying ty = some (.interface ms)) (u v : TypeId) (x y : Value) (h : u ≠ v) : (Op.equalIn (d + 1) ty (.iface u x) (.iface v y)).run P w = .ok false w := by
  simp [Op.equalIn, run_underlying hty, h]
theorem ein_if_eq {ty : TypeId} {ms : Array (String × TypeId)} (d : Nat) (hty : P.underlying ty = some (.interface ms)) (u : TypeId) (x y : Value) {i : TypeInfo} (hi : P.info? u = some i) (hc : i.comparable = true) :
    (Op.equalIn (d + 1) ty (.iface u x) (.iface u y)).run P w = (Op.equalIn d u x y).run P w := by
  simp only [Op.equalIn, Sem.run_bind, run_underlying hty, Result.andThen_ok, ne_eq, not_true_eq_false, if_false, run_typeInfo hi, hc, Bool.not_true, Bool.false_eq_true]

/-- ==, of whatever type that is compared -/
theorem eq_sim {ty : TypeId} {q : EqK} {X Y : Operand} {u v : AV} {x y : Value} {r : Bool} {op : BinOp} (hop : op = .eql ∨ op = .neq) (hq : eqK P ty (isK X || isK Y) = some q)
    (hu : VR C.st ρ u x) (hv : VR C.st ρ v y) (he : eqA q u v = some r) :
    (do eqGuard op ty X Y x y; binOp op ty x y : Sem Value).run P w = .ok (.bool (if op = .eql then r else !r)) w := by
  -- where no guard speaks and the comparison is the type's own
  have fin : ∀ (hgd : (eqGuard op ty X Y x y).run P w = .ok () w) (hb : binOp op ty x y = eqv op ty x y)
      (heq : (Op.equalIn 10000 ty x y).run P w = .ok r w), (do eqGuard op ty X Y x y; binOp op ty x y : Sem Value).run P w = .ok (.bool (if op = .eql then r else !r)) w := fun hgd hb heq => by
    simp only [Sem.run_bind, hgd, Result.andThen_ok, hb]
    rcases hop with rfl | rfl <;> simp only [eqv, Sem.run_bind, Op.equal, Op.maxDepth, heq, Result.andThen_ok, Sem.run_pure, if_true, reduceCtorEq, if_false]
  have g0 : ∀ {x y : Value}, (match x, y with | .nilIface, .nilIface => false | .agg _, .agg _ => false | _, _ => true) = true → (eqGuard op ty X Y x y).run P w = .ok () w := fun {x y} hxy => by
    unfold eqGuard
    rcases hop with rfl | rfl <;> cases x <;> cases y <;> simp at hxy ⊢
  unfold eqK at hq
  cases hty : P.underlying ty with
  | none => rw [hty] at hq; simp [flatT, isAggA, hty] at hq
  | some de =>
    rw [hty] at hq
    cases de
    case bool =>
      simp only [Option.some.injEq] at hq; subst hq
      cases u <;> cases v <;> simp only [eqA, reduceCtorEq] at he
      simp only [VR] at hu hv; subst hu; subst hv; cases he
      exact fin (g0 rfl) (by rcases hop with rfl | rfl <;> rfl) (run_equalIn_bool' w 9999 ty _ _ hty)
    case int k =>
      simp only [Option.some.injEq] at hq; subst hq
      cases u <;> cases v <;> simp only [eqA, reduceCtorEq] at he
      · rename_i j n k m
        simp only [VR] at hu hv; subst hu; subst hv
        by_cases hjk : j = k
        · rw [if_pos hjk] at he; cases he; subst hjk
          rw [Sem.run_bind, g0 rfl, Result.andThen_ok]
          rcases hop with rfl | rfl <;> simp [binOp, Op.intCmp]
          rfl
        · rw [if_neg hjk] at he; cases he
      · simp only [VR] at hu hv; subst hu; subst hv; cases he
        rw [Sem.run_bind, g0 rfl, Result.andThen_ok]
        rcases hop with rfl | rfl <;> simp [binOp, Op.stringOp, beqB_eq]
    case string =>
      simp only [Option.some.injEq] at hq; subst hq
      cases u <;> cases v <;> simp only [eqA, reduceCtorEq] at he
      · rename_i j n k m
        simp only [VR] at hu hv; subst hu; subst hv
        by_cases hjk : j = k
        · rw [if_pos hjk] at he; cases he; subst hjk
          rw [Sem.run_bind, g0 rfl, Result.andThen_ok]
          rcases hop with rfl | rfl <;> simp [binOp, Op.intCmp]
          rfl
        · rw [if_neg hjk] at he; cases he
      · simp only [VR] at hu hv; subst hu; subst hv; cases he
        rw [Sem.run_bind, g0 rfl, Result.andThen_ok]
        rcases hop with rfl | rfl <;> simp [binOp, Op.stringOp, beqB_eq]
    case pointer e =>
      simp only at hq
      cases hn : szA P e with
      | none => rw [hn] at hq; simp at hq
      | some n =>
        rw [hn] at hq
        simp only at hq
        by_cases hn0 : n = 0
        · rw [if_pos hn0] at hq; cases hq
        rw [if_neg hn0] at hq; cases hq
        have hb : ∀ {a b : Option Addr}, binOp op ty (.pointer a) (.pointer b) = eqv op ty (.pointer a) (.pointer b) := fun {a b} => by
          rcases hop with rfl | rfl <;> rfl
        cases u <;> cases v <;> simp only [eqA, reduceCtorEq] at he
        · simp only [VR] at hu hv; subst hu; subst hv; cases he
          exact fin (g0 rfl) hb (ein_ptr_l 9999 hty _)
        · simp only [VR] at hu hv; subst hu; obtain ⟨_, _, _, rfl⟩ := hv; cases he
          exact fin (g0 rfl) hb (ein_ptr_l 9999 hty _)
        · simp only [VR] at hu hv; subst hu; obtain ⟨_, _, rfl, _⟩ := hv; cases he
          exact fin (g0 rfl) hb (ein_ptr_l 9999 hty _)
        · simp only [VR] at hu hv; subst hv; obtain ⟨_, _, _, rfl⟩ := hu; cases he
          exact fin (g0 rfl) hb (ein_ptr_r 9999 hty _)
        · rename_i b o b' o'
          simp only [VR] at hu hv
          obtain ⟨B, m, h1, rfl⟩ := hu
          obtain ⟨B', m', h2, rfl⟩ := hv
          by_cases hbb : b = b'
          · rw [if_pos hbb] at he; cases he; subst hbb
            rw [h1] at h2; cases h2
            exact fin (g0 rfl) hb (ein_ptr_same 9999 hty hn hn0 _ _ _)
          · rw [if_neg hbb] at he; cases he
        · simp only [VR] at hu hv; subst hv; obtain ⟨_, _, rfl, _⟩ := hu; cases he
          exact fin (g0 rfl) hb (ein_ptr_r 9999 hty _)
    case slice e =>
      simp only [Option.some.injEq] at hq; subst hq
      have hb : ∀ {a b : Option Addr} {n k n' k' : Nat}, binOp op ty (.slice a n k) (.slice b n' k') = eqv op ty (.slice a n k) (.slice b n' k') := fun {a b n k n' k'} => by
        rcases hop with rfl | rfl <;> rfl
      cases u <;> cases v <;> simp only [eqA, reduceCtorEq] at he <;> cases he <;> simp only [VR] at hu hv
      · subst hu; subst hv; exact fin (g0 rfl) hb (ein_slice_l 9999 hty _ _ _ _ _)
      · subst hu; obtain ⟨_, _, _, _, rfl, _⟩ := hv; exact fin (g0 rfl) hb (ein_slice_l 9999 hty _ _ _ _ _)
      · subst hu; obtain ⟨_, _, _, rfl, _⟩ := hv; exact fin (g0 rfl) hb (ein_slice_l 9999 hty _ _ _ _ _)
      · subst hu; obtain ⟨_, _, rfl⟩ := hv; exact fin (g0 rfl) hb (ein_slice_l 9999 hty _ _ _ _ _)
      · subst hv; obtain ⟨_, _, _, _, rfl, _⟩ := hu; exact fin (g0 rfl) hb (ein_slice_r 9999 hty _ _ _ _ _)
      · subst hv; obtain ⟨_, _, _, rfl, _⟩ := hu; exact fin (g0 rfl) hb (ein_slice_r 9999 hty _ _ _ _ _)
      · subst hv; obtain ⟨_, _, rfl⟩ := hu; exact fin (g0 rfl) hb (ein_slice_r 9999 hty _ _ _ _ _)
    case func =>
      simp only [Option.some.injEq] at hq; subst hq
      cases u <;> cases v <;> simp only [eqA, reduceCtorEq] at he <;> cases he <;> simp only [VR] at hu hv
      · obtain ⟨_, _, rfl, _⟩ := hu; subst hv
        exact fin (g0 rfl) (by rcases hop with rfl | rfl <;> rfl) (ein_func_r 9999 hty _ _ _)
      · subst hu; obtain ⟨_, _, rfl, _⟩ := hv
        exact fin (g0 rfl) (by rcases hop with rfl | rfl <;> rfl) (ein_func_l 9999 hty _ _ _)
      · subst hu; subst hv
        exact fin (g0 rfl) (by rcases hop with rfl | rfl <;> rfl) (ein_func_n 9999 hty)
    case interface ms =>
      simp only [Option.some.injEq] at hq; subst hq
      cases u <;> cases v <;> simp only [eqA, reduceCtorEq] at he
      · rename_i t1 v1 t2 v2
        simp only [VR] at hu hv
        obtain ⟨x, rfl, hx⟩ := hu
        obtain ⟨y, rfl, hy⟩ := hv
        refine fin (g0 rfl) (by rcases hop with rfl | rfl <;> rfl) ?_
        by_cases htt : t1 = t2
        · rw [if_pos htt] at he
          subst htt
          cases hpk : pkIn t1 (oksOf P (List.range P.types.size)) with
          | none => rw [hpk] at he; simp at he
          | some p =>
            rw [hpk] at he
            simp only at he
            obtain ⟨hp, i, hi, hcmp⟩ := oks_mem (pkIn_mem hpk)
            rw [ein_if_eq 9999 hty _ _ _ hi hcmp]
            exact prim_sim (d := 9998) hp hx hy he
        · rw [if_neg htt] at he; cases he
          exact ein_if_ne 9999 hty _ _ _ _ htt
      · cases he
        simp only [VR] at hu hv
        obtain ⟨x, rfl, hx⟩ := hu; subst hv
        exact fin (g0 rfl) (by rcases hop with rfl | rfl <;> rfl) (ein_if_r 9999 hty _ _)
      · cases he
        simp only [VR] at hu hv
        obtain ⟨x, rfl, hx⟩ := hv; subst hu
        exact fin (g0 rfl) (by rcases hop with rfl | rfl <;> rfl) (ein_if_l 9999 hty _ _)
      · simp only [VR] at hu hv; subst hu; subst hv
        by_cases hl : (isK X || isK Y) = true
        · rw [if_pos hl] at he; cases he
          refine fin ?_ (by rcases hop with rfl | rfl <;> rfl) (ein_if_nn 9999 hty)
          unfold eqGuard
          rcases hop with rfl | rfl <;> cases X <;> cases Y <;> simp [isK] at hl ⊢
        · rw [if_neg hl] at he; cases he
    all_goals
      simp only [Option.map_eq_some_iff] at hq
      obtain ⟨ks, hks, rfl⟩ := hq
      obtain ⟨_, h3, _⟩ := flatT_facts hks
      cases u <;> cases v <;> simp only [eqA, reduceCtorEq] at he
      have hu' := hu
      have hv' := hv
      simp only [VR] at hu hv
      obtain ⟨xs, rfl, hxs⟩ := hu
      obtain ⟨ys, rfl, hys⟩ := hv
      refine fin ?_ (by rcases hop with rfl | rfl <;> rfl) (flat_sim (d := 9992) hks hu' hv' he)
      unfold eqGuard
      rcases hop with rfl | rfl <;> simp [h3]
end
end Go.AM

/- ARITHMETIC, CONVERSIONS, AND THE OTHER OPERATIONS ON PLAIN VALUES. -/
namespace Go.AM
section
variable {C : Cx} {ρ : Pl} {h h' : Heap} {w : World} {P : Program} {t : Tm} {a : Act}

theorem guard_other {op : BinOp} {ty : TypeId} {X Y : Operand} {x y : Value} (h1 : op ≠ .eql) (h2 : op ≠ .neq) : (eqGuard op ty X Y x y).run P w = .ok () w := by
  unfold eqGuard
  cases op <;> simp at h1 h2 ⊢

theorem bin_sim {op : BinOp} {ty : TypeId} {X Y : Operand} {u v r : AV} {x y : Value} (h1 : op ≠ .eql) (h2 : op ≠ .neq) (hu : VR C.st ρ u x) (hv : VR C.st ρ v y) (he : binA op .num u v = some r) :
    ∃ z, (do eqGuard op ty X Y x y; binOp op ty x y : Sem Value).run P w = .ok z w ∧ VR C.st ρ r z := by
  rw [Sem.run_bind, guard_other h1 h2, Result.andThen_ok]
  cases u <;> cases v <;> first | (cases op <;> simp [binA] at he h1 h2; done) | skip
  case int.int j m k n =>
    simp only [VR] at hu hv; subst hu; subst hv
    have e0 : ∀ z : Value, (binOp op ty (.int j m) (.int k n)).run P w = .ok z w → VR C.st ρ r z → ∃ z, (binOp op ty (.int j m) (.int k n)).run P w = .ok z w ∧ VR C.st ρ r z := fun z a b => ⟨z, a, b⟩
    by_cases hjk : j = k
    · subst hjk
      cases op <;> simp only [binA, ne_eq, not_true_eq_false, reduceCtorEq, not_false_eq_true, if_true, Option.some.injEq] at he h1 h2
      case add => subst he; exact e0 (.int j (j.wrap (m + n))) (by simp [binOp, Op.intArith]) (by simp only [VR, wrapA_eq])
      case sub => subst he; exact e0 (.int j (j.wrap (m - n))) (by simp [binOp, Op.intArith]) (by simp only [VR, wrapA_eq])
      case mul => subst he; exact e0 (.int j (j.wrap (m * n))) (by simp [binOp, Op.intArith]) (by simp only [VR, wrapA_eq])
      case quo =>
        by_cases hn : n = 0
        · rw [if_pos hn] at he; cases he
        · rw [if_neg hn] at he; cases he; exact e0 (.int j (j.wrap (m.tdiv n))) (by simp [binOp, Op.intDiv, hn]) (by simp only [VR, wrapA_eq])
      case rem =>
        by_cases hn : n = 0
        · rw [if_pos hn] at he; cases he
        · rw [if_neg hn] at he; cases he; exact e0 (.int j (m.tmod n)) (by simp [binOp, Op.intDiv, hn]) (by simp only [VR])
      case and => subst he; exact e0 _ (by simp only [binOp, ne_eq, not_true_eq_false, if_false, Op.intBits]; rfl) (by simp only [VR])
      case or => subst he; exact e0 _ (by simp only [binOp, ne_eq, not_true_eq_false, if_false, Op.intBits]; rfl) (by simp only [VR])
      case xor => subst he; exact e0 _ (by simp only [binOp, ne_eq, not_true_eq_false, if_false, Op.intBits]; rfl) (by simp only [VR])
      case andNot => subst he; exact e0 _ (by simp only [binOp, ne_eq, not_true_eq_false, if_false, Op.intBits]; rfl) (by simp only [VR])
      case lss => subst he; exact e0 (.bool (decide (m < n))) (by simp [binOp, Op.intCmp]) (by simp only [VR])
      case leq => subst he; exact e0 (.bool (decide (m ≤ n))) (by simp [binOp, Op.intCmp]) (by simp only [VR])
      case gtr => subst he; exact e0 (.bool (decide (n < m))) (by simp [binOp, Op.intCmp]) (by simp only [VR])
      case geq => subst he; exact e0 (.bool (decide (n ≤ m))) (by simp [binOp, Op.intCmp]) (by simp only [VR])
      case shl =>
        by_cases hn : n < 0
        · rw [if_pos hn] at he; cases he
        · rw [if_neg hn] at he; cases he
          exact e0 (.int j (j.wrap (m * 2 ^ (min n.toNat j.bits)))) (by simp only [binOp, Op.shift, if_neg hn, Sem.run_pure]) (by simp only [VR, wrapA_eq])
      case shr =>
        by_cases hn : n < 0
        · rw [if_pos hn] at he; cases he
        · rw [if_neg hn] at he; cases he
          exact e0 (.int j (m.fdiv (2 ^ (min n.toNat j.bits)))) (by simp only [binOp, Op.shift, if_neg hn, Sem.run_pure]) (by simp only [VR])
    · cases op <;> simp only [binA, ne_eq, not_true_eq_false, reduceCtorEq, not_false_eq_true, if_neg hjk] at he h1 h2
      case shl =>
        by_cases hn : n < 0
        · rw [if_pos hn] at he; cases he
        · rw [if_neg hn] at he; cases he
          exact e0 (.int j (j.wrap (m * 2 ^ (min n.toNat j.bits)))) (by simp only [binOp, Op.shift, if_neg hn, Sem.run_pure]) (by simp only [VR, wrapA_eq])
      case shr =>
        by_cases hn : n < 0
        · rw [if_pos hn] at he; cases he
        · rw [if_neg hn] at he; cases he
          exact e0 (.int j (m.fdiv (2 ^ (min n.toNat j.bits)))) (by simp only [binOp, Op.shift, if_neg hn, Sem.run_pure]) (by simp only [VR])
  case str.str m n =>
    simp only [VR] at hu hv; subst hu; subst hv
    have e1 : ∀ l : List UInt8, (⟨l.toArray⟩ : ByteArray).size = l.length := fun l => by simp [ByteArray.size]
    have e0 : ∀ z : Value, (binOp op ty (.string ⟨m.toArray⟩) (.string ⟨n.toArray⟩)).run P w = .ok z w → VR C.st ρ r z → ∃ z, (binOp op ty (.string ⟨m.toArray⟩) (.string ⟨n.toArray⟩)).run P w = .ok z w ∧ VR C.st ρ r z := fun z a b => ⟨z, a, b⟩
    cases op <;> simp only [binA, ne_eq, not_true_eq_false, reduceCtorEq, not_false_eq_true, Option.some.injEq] at he h1 h2
    case add =>
      by_cases hl : m.length + n.length ≤ 4611686018427387904
      · rw [if_pos hl] at he; cases he
        refine e0 (.string (⟨m.toArray⟩ ++ ⟨n.toArray⟩)) ?_ ?_
        · simp only [binOp, Op.stringOp, e1]
          rw [if_neg (by simp [IntKind.max, IntKind.signed, IntKind.bits]; omega)]
          rfl
        · simp only [VR]
          congr 1
      · rw [if_neg hl] at he; cases he
    case lss => subst he; exact e0 (.bool (Op.bytesLess m n)) (by simp only [binOp, Op.stringOp, ByteArray.toList_mk, Sem.run_pure]) (by simp only [VR, ltB_eq])
    case leq => subst he; exact e0 (.bool (Op.bytesLess m n || m == n)) (by simp only [binOp, Op.stringOp, ByteArray.toList_mk, Sem.run_pure]) (by simp only [VR, ltB_eq, beqB_eq])
    case gtr => subst he; exact e0 (.bool (!(Op.bytesLess m n || m == n))) (by simp only [binOp, Op.stringOp, ByteArray.toList_mk, Sem.run_pure]) (by simp only [VR, ltB_eq, beqB_eq])
    case geq => subst he; exact e0 (.bool (!Op.bytesLess m n)) (by simp only [binOp, Op.stringOp, ByteArray.toList_mk, Sem.run_pure]) (by simp only [VR, ltB_eq])

theorem un_sim {op : UnOp} {u r : AV} {x : Value} (hu : VR C.st ρ u x) (he : unA op u = some r) : ∃ z, (Op.unary op x).run P w = .ok z w ∧ VR C.st ρ r z := by
  cases u <;> cases op <;> simp only [unA, reduceCtorEq] at he
  · simp only [VR] at hu; subst hu; cases he
    exact ⟨_, rfl, by simp only [VR]⟩
  · simp only [VR] at hu; subst hu; cases he
    exact ⟨_, rfl, by simp only [VR, wrapA_eq]⟩

theorem bytesOf_sim {st : Stab} : ∀ {cs : List AV} {xs : List Value} {l : List UInt8}, VRs st ρ cs xs → AM.bytesOf cs = some l →
    ∃ ns : List Int, xs = ns.map (Value.int .u8) ∧ l = ns.map fun n => UInt8.ofNat n.toNat
  | [], xs, l, hv, hb => by simp only [VRs] at hv; simp [AM.bytesOf] at hb; subst hv; subst hb; exact ⟨[], rfl, rfl⟩
  | c :: cs, xs, l, hv, hb => by
    simp only [VRs] at hv
    obtain ⟨x, r, rfl, hx, hr⟩ := hv
    cases c <;> first | (simp [AM.bytesOf] at hb; done) | skip
    rename_i k n
    cases k <;> first | (simp [AM.bytesOf] at hb; done) | skip
    simp only [AM.bytesOf] at hb
    cases hr' : AM.bytesOf cs with
    | none => rw [hr'] at hb; cases hb
    | some l' =>
      rw [hr'] at hb; cases hb
      obtain ⟨ns, rfl, rfl⟩ := bytesOf_sim hr hr'
      simp only [VR] at hx; subst hx
      exact ⟨n :: ns, rfl, rfl⟩

/-- the bytes of a slice, as the model makes a string of them -/
theorem run_bytesToString {B o k : Nat} {ns : List Int} (hc : CellsAt w B o (ns.map (Value.int .u8))) :
    (Conv.bytesToString (.slice (some ⟨B, o, none⟩) ns.length k)).run P w = .ok (.string ⟨(ns.map fun n => UInt8.ofNat n.toNat).toArray⟩) w := by
  have hl : (loadCells ⟨B, o, none⟩ ns.length).run P w = .ok (ns.map (Value.int .u8)).toArray w := by
    have := run_loadCells' (P := P) hc
    simpa using this
  have key : ∀ (l : List Int) (acc : List UInt8), (forIn (m := Sem) (l.map (Value.int .u8)) (⟨acc.toArray⟩ : ByteArray) (fun c s =>
      (match c with | .int .u8 n => pure (ForInStep.yield (s.push (UInt8.ofNat n.toNat))) | _ => (do stuck "bytesToString: byte expected"; pure (ForInStep.yield s)) : Sem (ForInStep ByteArray)))).run P w
      = .ok ⟨(acc ++ l.map fun n => UInt8.ofNat n.toNat).toArray⟩ w := by
    intro l
    induction l with
    | nil => intro acc; simp
    | cons n l ih =>
      intro acc
      simp only [List.map_cons, List.forIn_cons, Sem.run_bind, Sem.run_pure, Result.andThen_ok]
      have : (⟨acc.toArray⟩ : ByteArray).push (UInt8.ofNat n.toNat) = ⟨(acc ++ [UInt8.ofNat n.toNat]).toArray⟩ := by
        apply ByteArray.ext; simp [ByteArray.push]
      rw [this, ih]
      simp
  have := key ns []
  simp only [Conv.bytesToString, Sem.run_bind, hl, Result.andThen_ok, List.forIn_toArray]
  rw [show ByteArray.empty = ⟨([] : List UInt8).toArray⟩ from rfl]
  rw [show ∀ f, forIn (m := Sem) (ns.map (Value.int .u8)) (⟨([] : List UInt8).toArray⟩ : ByteArray) f = forIn (ns.map (Value.int .u8)) (⟨([] : List UInt8).toArray⟩ : ByteArray) f from fun _ => rfl]
  refine Eq.trans (congrArg (fun r : Result ByteArray => r.andThen fun a w' => Sem.run P (pure (Value.string a)) w') (Eq.trans ?_ this)) ?_
  · rfl
  · simp
end
end Go.AM

/- APPEND. -/
namespace Go.AM
section
variable {C : Cx} {ρ : Pl} {h h' : Heap} {w : World} {P : Program} {t : Tm} {a : Act}

theorem Post.drawn (hr : Rel C ρ h w) (n : Nat) : Post C ρ h w ρ h { w with drawn := n } :=
  ⟨Pl.le_refl _, hr.drawn n, Nat.le_refl _, fun _ _ _ => rfl, (fun b B m h1 h2 => by rw [h1] at h2; cases h2), Nat.le_refl _, fun _ _ h => ⟨h, rfl⟩⟩

theorem source_sim (hr : Rel C ρ h w) {e m : Nat} {u : AV} {y : Value} {new : List AV} (hu : VR C.st ρ u y) (hs : sourceA h e u m = some new) (hm : ∃ l, lenA u = some l ∧ m ≤ l) :
    ∃ ys, VRs C.st ρ new ys ∧ ∀ n, (Builtin.firstCells e m y).run P { w with drawn := n } = .ok ys.toArray { w with drawn := n } := by
  have lc : ∀ (B o : Nat) (xs : List Value) (n : Nat), CellsAt w B o xs → (loadCells ⟨B, o, none⟩ xs.length).run P { w with drawn := n } = .ok xs.toArray { w with drawn := n } :=
    fun B o xs n hc => run_loadCells' (P := P) (w := { w with drawn := n }) hc
  cases u <;> simp only [sourceA, reduceCtorEq] at hs
  case str s =>
    cases hs
    simp only [VR] at hu; subst hu
    refine ⟨((s.take m).map fun b => Value.int .u8 b.toNat), ?_, fun n => ?_⟩
    · refine VRs.of_get (by simp) (fun i a ha => ?_)
      simp only [List.getElem?_map, Option.map_eq_some_iff] at ha ⊢
      obtain ⟨b, hb, rfl⟩ := ha
      exact ⟨_, ⟨b, hb, rfl⟩, by simp [byteA, VR]⟩
    · simp only [Builtin.firstCells, Sem.run_pure]
      congr 1
      apply Array.ext'
      simp [ByteArray.data_extract]
  case nilslice =>
    by_cases h0 : m = 0
    · rw [if_pos h0] at hs; cases hs
      simp only [VR] at hu; subst hu
      exact ⟨[], by simp only [VRs], fun n => rfl⟩
    · rw [if_neg h0] at hs; cases hs
  case eslice =>
    by_cases h0 : m = 0
    · rw [if_pos h0] at hs; cases hs
      simp only [VR] at hu; obtain ⟨ad, k, rfl⟩ := hu
      subst h0
      exact ⟨[], by simp only [VRs], fun n => by simp [Builtin.firstCells, loadCells, loadCellsFrom]⟩
    · rw [if_neg h0] at hs; cases hs
  case slice b o n c e' =>
    by_cases hee : e' = e
    · rw [if_pos hee] at hs
      simp only [VR] at hu; obtain ⟨B, tot, k, hb, rfl, _, _⟩ := hu
      by_cases h0 : m = 0
      · rw [if_pos h0] at hs; cases hs
        subst h0
        exact ⟨[], by simp only [VRs], fun n => by simp [Builtin.firstCells, loadCells, loadCellsFrom]⟩
      · rw [if_neg h0] at hs
        obtain ⟨xs, h1, h2, h3⟩ := read_sim hr hb hs
        refine ⟨xs, h2, fun n => ?_⟩
        simp only [Builtin.firstCells]
        rw [← h1]; exact lc B o xs n h3
    · rw [if_neg hee] at hs; cases hs
  case pslice cs o n c =>
    simp only [VR] at hu; obtain ⟨B, d, k, rfl, _, _, hp⟩ := hu
    by_cases h0 : m = 0
    · rw [if_pos h0] at hs; cases hs
      subst h0
      exact ⟨[], by simp only [VRs], fun n => by simp [Builtin.firstCells, loadCells, loadCellsFrom]⟩
    · rw [if_neg h0] at hs
      obtain ⟨xs, h1, h2, h3⟩ := readP_sim hr hp hs
      refine ⟨xs, h2, fun n => ?_⟩
      simp only [Builtin.firstCells]
      rw [← h1]; exact lc B (d + o) xs n h3

theorem growBy_le (newLen : Nat) : ∀ (r c : Nat), c < newLen → Builtin.growBy newLen r c ≤ newLen + (newLen + 768) / 4
  | 0, c, h => by simp only [Builtin.growBy]; omega
  | r + 1, c, h => by
    simp only [Builtin.growBy]
    rw [if_neg (by omega)]
    by_cases hc : c + (c + 768) / 4 < newLen
    · exact growBy_le newLen r _ hc
    · have : ∀ r' c', newLen ≤ c' → Builtin.growBy newLen r' c' = c' := fun r' c' hle => by
        cases r' with
        | zero => rfl
        | succ r' => simp only [Builtin.growBy]; rw [if_pos hle]
      rw [this r _ (by omega)]
      omega

theorem nextcap_le {need old : Nat} (h : old < need) : Builtin.nextslicecap need old ≤ 3 * need := by
  unfold Builtin.nextslicecap
  split
  · omega
  · split
    · omega
    · have := growBy_le need 4 old h; omega

/-- nothing of the model's memory turns; the abstract block stops to be its owner -/
theorem Post.weaken {b B m : Nat} {ty frz : Nat} {cs : List AV} {anc : List (Nat × Nat)} {o' : AObj} {lim : Nat} (hr : Rel C ρ h w) (hb : ρ b = some (B, m)) (hg : h.get b = some (.cells ty cs true frz anc))
    (ho' : o' = .cells ty cs false frz anc ∨ o' = .dead) :
    Post C ρ h w ρ (kill (h.set b o') lim anc) w ∧ (kill (h.set b o') lim anc).get b = some o' ∧
      ∀ b2 m2, b2 ≠ b → ρ b2 = some (B, m2) → (kill (h.set b o') lim anc).get b2 = some .dead ∨
        ∃ ty2 cs2 frz2 anc2 n, (kill (h.set b o') lim anc).get b2 = some (.cells ty2 cs2 false frz2 anc2) ∧ (b2, n) ∈ anc ∧ cs2.length ≤ n ∧ n ≤ lim := by
  have hroom := hr.room
  have hbl := (hr.dom _ _ _ hb).1
  have hanc := fun a n hin => hr.ancs b B m _ hb hg a n hin
  have hanclt : ∀ a n, (a, n) ∈ anc → 0 ≤ a := fun a n hin => by
    obtain ⟨_, x, hx⟩ := hanc a n hin
    have := (hr.dom a x.1 x.2 hx).1; omega
  have hgb : (kill (h.set b o') lim anc).get b = some o' := by
    rcases kill_get anc (h.set b o') lim b hanclt (by omega) with ⟨k1, _⟩ | ⟨_, n, k2⟩
    · rw [k1, Heap.get_set (by omega) (by omega), if_pos rfl]
    · exact absurd rfl (hanc b n k2).1
  have hoth : ∀ j, 0 ≤ j → j ≠ b → ((kill (h.set b o') lim anc).get j = h.get j ∧ ∀ n, (j, n) ∈ anc → n ≤ lim) ∨ ((kill (h.set b o') lim anc).get j = some .dead ∧ ∃ n, (j, n) ∈ anc) := fun j hj hne => by
    rcases kill_get anc (h.set b o') lim j hanclt hj with ⟨k1, k2⟩ | k
    · left; rw [k1, Heap.get_set (by omega) hj, if_neg (fun e => hne e.symm)]; exact ⟨rfl, k2⟩
    · exact .inr k
  have hown' : o'.own = false := by rcases ho' with rfl | rfl <;> rfl
  have hor : ∀ o, OR C.T C.st ρ (.cells ty cs true frz anc) o m → OR C.T C.st ρ o' o m := fun o hor => by
    rcases ho' with rfl | rfl
    · obtain ⟨xs, lo, hi, h1, h2, h3, _⟩ := hor
      exact ⟨xs, lo, hi, h1, h2, h3, fun e => by cases e⟩
    · trivial
  have hrel : Rel C ρ (kill (h.set b o') lim anc) w := by
    refine ⟨by rw [kill_next]; exact hroom, ?_, ?_, ?_, hr.low, hr.base, hr.io⟩
    · intro j B' m' hj
      obtain ⟨h1, h2, aoj, oj, h3, h4, h5⟩ := hr.dom j B' m' hj
      refine ⟨by rw [kill_next]; exact h1, h2, ?_⟩
      by_cases e : j = b
      · subst e; rw [hb] at hj; cases hj
        rw [hg] at h3; cases h3
        exact ⟨o', oj, hgb, h4, hor oj h5⟩
      · rcases hoth j (by omega) e with ⟨k, _⟩ | ⟨k, _⟩
        · exact ⟨aoj, oj, by rw [k]; exact h3, h4, h5⟩
        · exact ⟨.dead, oj, k, h4, trivial⟩
    · intro b1 b2 B' m1 m2 o1 hb1 hb2 hne hg1 ho1
      have l1 := (hr.dom _ _ _ hb1).1
      have l2 := (hr.dom _ _ _ hb2).1
      by_cases e1 : b1 = b
      · subst e1; rw [hgb] at hg1; cases hg1; rw [hown'] at ho1; cases ho1
      · have hg1' : h.get b1 = some o1 := by
          rcases hoth b1 (by omega) e1 with ⟨k, _⟩ | ⟨k, _⟩
          · rw [← k]; exact hg1
          · rw [k] at hg1; cases hg1; cases ho1
        have hS := hr.inj b1 b2 B' m1 m2 o1 hb1 hb2 hne hg1' ho1
        by_cases e2 : b2 = b
        · subst e2
          rw [hg] at hS
          rcases hS with hd | ⟨_, _, _, _, _, hc, _⟩
          · cases hd
          · cases hc
        · rcases hoth b2 (by omega) e2 with ⟨k, _⟩ | ⟨k, _⟩
          · rw [k]; exact hS
          · exact .inl k
    · intro j B' m' oj hj hgj a n hin
      by_cases e : j = b
      · subst e; rw [hgb] at hgj; cases hgj
        rcases ho' with rfl | rfl
        · exact hanc a n hin
        · cases hin
      · rcases hoth j (by have := (hr.dom _ _ _ hj).1; omega) e with ⟨k, _⟩ | ⟨k, _⟩
        · rw [k] at hgj; exact hr.ancs j B' m' oj hj hgj a n hin
        · rw [k] at hgj; cases hgj; cases hin
  refine ⟨⟨Pl.le_refl _, hrel, Nat.le_refl _, fun _ _ _ => rfl, (fun b B m h1 h2 => by rw [h1] at h2; cases h2), by rw [kill_next]; exact Nat.le_refl _, fun j hj hnone => ⟨hnone, ?_⟩⟩, hgb, ?_⟩
  · rcases hoth j (by omega) (fun e => by rw [e, hb] at hnone; cases hnone) with ⟨k, _⟩ | ⟨_, n, hin⟩
    · exact k
    · obtain ⟨_, x, hx⟩ := hanc j n hin; rw [hnone] at hx; cases hx
  · intro b2 m2 hne hb2
    have l2 := (hr.dom _ _ _ hb2).1
    rcases hoth b2 (by omega) hne with ⟨k, k2⟩ | ⟨k, _⟩
    · rcases hr.inj b b2 B m m2 _ hb hb2 (fun e => hne e.symm) hg rfl with hd | ⟨ty2, cs2, frz2, anc2, n, hc, hin, hle⟩
      · left; rw [k]; exact hd
      · right; exact ⟨ty2, cs2, frz2, anc2, n, by rw [k]; exact hc, hin, hle, k2 n hin⟩
    · exact .inl k

/-- a new abstract block at the place of an old one, longer than that -/
theorem Post.extend {b' B m ty frz lo hi lim : Nat} {cs : List AV} {anc : List (Nat × Nat)} {xs ys : List Value} (hr : Rel C ρ h w) (ha : h.alloc (.cells ty cs true frz anc) = some (b', h')) (hBN : C.N0 ≤ B)
    (hB : w.heap[B]? = some (.cells xs.toArray ty (lo, hi))) (hm : xs.length = m) (hlim : lim + ys.length ≤ xs.length) (hf : FC frz lo hi m)
    (hcr : CR C.st ρ cs (putV xs lim ys)) (himg : ∃ b0 m0, ρ b0 = some (B, m0)) (hanc : ∀ a n, (a, n) ∈ anc → ∃ x, ρ a = some x)
    (hsh : ∀ b2 m2, ρ b2 = some (B, m2) → h.get b2 = some .dead ∨ ∃ ty2 cs2 frz2 anc2 n, h.get b2 = some (.cells ty2 cs2 false frz2 anc2) ∧ (b2, n) ∈ anc ∧ cs2.length ≤ n ∧ n ≤ lim) :
    Post C ρ h w (ρ.upd b' (B, m)) h' (w.putObj B (.cells (putV xs lim ys).toArray ty (lo, hi))) ∧ (ρ.upd b' (B, m)) b' = some (B, m) := by
  obtain ⟨rfl, hn, hlt, hget⟩ := Heap.alloc_eq ha
  have hBs : B < w.heap.size := (Array.getElem?_eq_some_iff.1 hB).1
  have hnone : ρ h.next = none := by
    cases hx : ρ h.next with
    | none => rfl
    | some x => have := (hr.dom _ x.1 x.2 hx).1; omega
  have hle : Pl.le ρ (ρ.upd h.next (B, m)) := fun b x hb => by
    simp only [Pl.upd]
    split
    · rename_i e; rw [e, hnone] at hb; cases hb
    · exact hb
  have hold : ∀ b, b < h.next → h'.get b = h.get b := fun b hb => by rw [hget b (by omega)]; rw [if_neg (by omega)]
  have hnew : h'.get h.next = some (.cells ty cs true frz anc) := by rw [hget _ (by omega)]; simp
  have hself : (ρ.upd h.next (B, m)) h.next = some (B, m) := by simp [Pl.upd]
  refine ⟨⟨hle, ?_, by simp, ?_, ?_, by omega, ?_⟩, hself⟩
  · refine ⟨by omega, ?_, ?_, ?_, ?_, by simpa using hr.base, ⟨hr.io.1, hr.io.2.1, fun B' hB' => (World.putObj_heap_other (show B' ≠ B by omega)).trans (hr.io.2.2 B' hB')⟩⟩
    · intro j B' m' hj
      simp only [Pl.upd] at hj
      split at hj
      · rename_i e; subst e; cases hj
        exact ⟨by omega, hBN, _, _, hnew, World.putObj_heap_same hBs, ⟨putV xs lim ys, lo, hi, rfl, by rw [putV_length]; exact hm, hcr.mono hle, fun _ => hf⟩⟩
      · obtain ⟨h1, h2, aoj, oj, h3, h4, h5⟩ := hr.dom j B' m' hj
        by_cases eB : B' = B
        · subst eB
          rcases hsh j m' hj with hd | ⟨ty2, cs2, frz2, anc2, n, hc, hin, hle1, hle2⟩
          · exact ⟨by omega, h2, .dead, _, by rw [hold j h1]; exact hd, World.putObj_heap_same hBs, trivial⟩
          · rw [hc] at h3; cases h3
            rw [hB] at h4; cases h4
            obtain ⟨zs, lo2, hi2, he, hm2, hcr2, hfr2⟩ := h5
            simp only [Obj.cells.injEq, Prod.mk.injEq] at he
            obtain ⟨he1, rfl, rfl, rfl⟩ := he
            have hz : xs = zs := by simpa using he1
            subst hz
            refine ⟨by omega, h2, .cells _ cs2 false frz2 anc2, _, by rw [hold j h1]; exact hc, World.putObj_heap_same hBs, ⟨putV xs lim ys, lo, hi, rfl, by rw [putV_length]; exact hm2, fun i a hai => ?_, fun e => by cases e⟩⟩
            have hi' : i < cs2.length := (List.getElem?_eq_some_iff.1 hai).1
            rw [putV_get _ _ _ hlim, if_neg (by omega)]
            obtain ⟨x, hx, hv⟩ := hcr2 i a hai
            exact ⟨x, hx, VR.mono hle _ _ hv⟩
        · exact ⟨by omega, h2, aoj, oj, by rw [hold j h1]; exact h3, by rw [World.putObj_heap_other eB]; exact h4, h5.mono hle⟩
    · intro b1 b2 B' m1 m2 o1 hb1 hb2 hne hg1 ho1
      simp only [Pl.upd] at hb1 hb2
      split at hb1
      · rename_i e1
        subst e1
        cases hb1
        rw [hnew] at hg1; cases hg1
        split at hb2
        · rename_i e2; exact absurd e2.symm hne
        · rw [hold b2 (hr.dom _ _ _ hb2).1]
          rcases hsh b2 m2 hb2 with hd | ⟨ty2, cs2, frz2, anc2, n, hc, hin, hle1, _⟩
          · exact .inl hd
          · exact .inr ⟨ty2, cs2, frz2, anc2, n, hc, hin, hle1⟩
      · have l1 := (hr.dom _ _ _ hb1).1
        rw [hold b1 l1] at hg1
        split at hb2
        · cases hb2
          rcases hsh b1 m1 hb1 with hd | ⟨ty2, cs2, frz2, anc2, n, hc, _⟩
          · rw [hd] at hg1; cases hg1; cases ho1
          · rw [hc] at hg1; cases hg1; cases ho1
        · rw [hold b2 (hr.dom _ _ _ hb2).1]
          exact hr.inj b1 b2 B' m1 m2 o1 hb1 hb2 hne hg1 ho1
    · intro j B' m' oj hj hgj a n hin
      simp only [Pl.upd] at hj
      split at hj
      · rename_i e; subst e; rw [hnew] at hgj; cases hgj
        obtain ⟨x, hx⟩ := hanc a n hin
        exact ⟨(fun e => by rw [e, hnone] at hx; cases hx), x, hle a x hx⟩
      · rw [hold j (hr.dom _ _ _ hj).1] at hgj
        obtain ⟨hne, x, hx⟩ := hr.ancs j B' m' oj hj hgj a n hin
        exact ⟨hne, x, hle a x hx⟩
    · intro B' d x hx
      obtain ⟨h1, h2⟩ := hr.low B' d x hx
      refine ⟨h1, ?_⟩
      rw [← h2]
      simp only [World.cell?]
      rw [World.putObj_heap_other (show B' ≠ B by omega)]
  · intro B' hB' hno
    exact World.putObj_heap_other (fun e => by obtain ⟨b0, m0, h0⟩ := himg; exact hno b0 m0 (e ▸ h0))
  · intro b B1 m1 hb1 hn1
    simp only [Pl.upd] at hb1
    split at hb1
    · cases hb1; exact .inr himg
    · rw [hn1] at hb1; cases hb1
  · intro b hb hn1
    refine ⟨?_, hold b hb⟩
    simp only [Pl.upd]; rw [if_neg (by omega)]; exact hn1
end
end Go.AM

/- APPEND, THE BUILTIN. -/
namespace Go.AM
section
variable {C : Cx} {ρ : Pl} {h h' : Heap} {w : World} {P : Program} {t : Tm} {a : Act}

/-- the append of the model, once it is known what is appended -/
def appendV (elem : TypeId) (size bytes : Nat) (zv : Value) (base : Option Addr) (sLen sCap n : Nat) (s : Value) (newS : Sem (Array Value)) : Sem Value :=
  if sLen + n ≤ sCap then do
    let new ← newS
    if let some a := base then storeCells (a.add (sLen * size)) new.toList
    pure (.slice base (sLen + n) sCap)
  else do
    let newCap ← choose (.appendCap (sLen + n) sCap elem)
    askRoom (newCap * bytes)
    let old ← Builtin.firstCells size sLen s
    let new ← newS
    let rest := Builtin.zeroCells zv.cells (newCap - (sLen + n))
    pure (.slice (some (← newRow elem (old ++ new ++ rest))) (sLen + n) newCap)

theorem cap_draw {elem : TypeId} (need old : Nat) : ∃ c n, need ≤ c ∧ (need < 9223372036854775808 → c < 9223372036854775808) ∧ (choose (.appendCap need old elem)).run P w = .ok c { w with drawn := n } := by
  refine ⟨_, _, ?_, ?_, by rw [run_choose]; simp only [Question.forced, Bool.false_eq_true, if_false]; rfl⟩
  · simp only [Question.cut]; omega
  · intro h
    simp only [Question.cut]
    have := Nat.mod_lt (w.tape w.drawn (.appendCap need old elem)) (show 0 < 2 ^ 63 - need by omega)
    omega

theorem appendV_sim (hr : Rel C ρ h w) {elem : TypeId} {e bytes m : Nat} {zv : Value} {s r : AV} {y : Value} {new : List AV} {ys : List Value} (he : e ≠ 0) (hby : bytes ≠ 0) (hz : zv.cells.size = e) (hs : VR C.st ρ s y)
    (hnew : VRs C.st ρ new ys) {newS : Sem (Array Value)} (hnS : ∀ n, newS.run P { w with drawn := n } = .ok ys.toArray { w with drawn := n }) (happ : appendA elem e bytes s new m h = some (r, h')) :
    ∃ base sLen sCap, y = .slice base sLen sCap ∧ (sLen + m ≤ sCap ∨ (sLen + m) * bytes ≤ roomA) ∧ Sim C P ρ h w (appendV elem e bytes zv base sLen sCap m y newS) r h' := by
  have hepos : 0 < e := Nat.pos_of_ne_zero he
  have hnS0 : newS.run P w = .ok ys.toArray w := hnS w.drawn
  -- where it is made anew
  have fresh : ∀ (h0 : Heap) (base : Option Addr) (sLen sCap b' frz : Nat) (anc : List (Nat × Nat)) (old : List AV), Post C ρ h w ρ h0 w → y = .slice base sLen sCap → ¬ sLen + m ≤ sCap → (sLen + m) * bytes ≤ roomA →
      (∃ os, VRs C.st ρ old os ∧ os.length = sLen * e ∧ ∀ n, (Builtin.firstCells e sLen y).run P { w with drawn := n } = .ok os.toArray { w with drawn := n }) →
      h0.alloc (.cells elem (old ++ new) true frz anc) = some (b', h') → (∀ a n, (a, n) ∈ anc → ∃ x, ρ a = some x) → new.length = m * e →
      Sim C P ρ h w (appendV elem e bytes zv base sLen sCap m y newS) (.slice b' 0 (sLen + m) none e) h' := by
    intro h0 base sLen sCap b' frz anc old hp hy hlt hrm hold ha hanc hnl
    obtain ⟨os, ho1, ho2, ho3⟩ := hold
    have hsmall : sLen + m < 9223372036854775808 := by
      have : sLen + m ≤ (sLen + m) * bytes := Nat.le_mul_of_pos_right _ (Nat.pos_of_ne_zero hby)
      unfold roomA at hrm
      omega
    obtain ⟨c, n, hc, hc63, hch⟩ := cap_draw (P := P) (w := w) (elem := elem) (sLen + m) sCap
    have hc63 := hc63 hsmall
    have hp2 : Post C ρ h w ρ h0 { w with drawn := n } := hp.trans (Post.drawn hp.rel n)
    have hly := hnew.length
    obtain ⟨rest, hrest⟩ : ∃ rest, rest = Builtin.zeroCells zv.cells (c - (sLen + m)) := ⟨_, rfl⟩
    have hrl : rest.size = (c - (sLen + m)) * e := by rw [hrest]; simp [Builtin.zeroCells, hz]
    obtain ⟨g1, g2, g3⟩ := new_sim (P := P) hp2.rel ha (xs := os ++ ys ++ rest.toList) (fun i a hi => by
      obtain ⟨x, hx, hv⟩ := (ho1.append hnew).get hi
      exact ⟨x, by rw [List.getElem?_append_left (List.getElem?_eq_some_iff.1 hx).1]; exact hx, hv⟩) hanc
    refine ⟨_, .slice (some ⟨w.heap.size, 0, none⟩) (sLen + m) c, _, ?_, ?_, hp2.trans g2⟩
    · unfold appendV
      rw [if_neg hlt]
      simp only [Sem.run_bind, hch, Result.andThen_ok, run_askRoom, ho3, hnS, ← hrest]
      have : (os.toArray ++ ys.toArray ++ rest) = (os ++ ys ++ rest.toList).toArray := by simp
      rw [this, g1]
      rfl
    · simp only [VR]
      refine ⟨_, _, c, g3, rfl, hc, ?_⟩
      simp only [List.length_append, Array.length_toList, hrl, ho2, hly, hnl]
      rw [Nat.sub_mul, Nat.add_mul]
      have : (sLen + m) * e ≤ c * e := Nat.mul_le_mul_right _ hc
      rw [Nat.add_mul] at this
      omega
  -- where it is written in place
  have inplace : ∀ (B o sLen sCap b : Nat) (h1 : Heap) (tot : Nat), ρ b = some (B, tot) → y = .slice (some ⟨B, o, none⟩) sLen sCap → sLen + m ≤ sCap → writeAt h b (o + sLen * e) new = some h1 →
      ∃ w', (appendV elem e bytes zv (some ⟨B, o, none⟩) sLen sCap m y newS).run P w = .ok (.slice (some ⟨B, o, none⟩) (sLen + m) sCap) w' ∧ Post C ρ h w ρ h1 w' := by
    intro B o sLen sCap b h1 tot hb hy hle hw
    obtain ⟨w', hrun, hp⟩ := write_sim (P := P) hr hb hnew hw
    refine ⟨w', ?_, hp⟩
    unfold appendV
    rw [if_pos hle]
    simp only [addr_add, Sem.run_bind, hnS0, hrun, Result.andThen_ok, Sem.run_pure]
  unfold appendA at happ
  by_cases hcond : allCells new = true ∧ new.length = m * e
  rotate_left
  · rw [if_neg hcond] at happ; cases happ
  rw [if_pos hcond] at happ
  obtain ⟨hac, hnl⟩ := hcond
  have hly := hnew.length
  have hnil : m = 0 → ys = [] := fun h0 => by subst h0; simp at hnl; rw [hnl] at hly; exact List.length_eq_zero_iff.1 hly
  cases s <;> simp only [reduceCtorEq] at happ
  case nilslice =>
    simp only [VR] at hs; subst hs
    refine ⟨none, 0, 0, rfl, ?_⟩
    by_cases h0 : m = 0
    · rw [if_pos h0] at happ; cases happ
      refine ⟨.inl (by omega), Sim.of_run hr (x := .slice none 0 0) ?_ (by simp only [VR])⟩
      unfold appendV
      rw [if_pos (by omega)]
      subst h0
      simp only [Sem.run_bind, hnS0, Result.andThen_ok, Sem.run_pure]
    · rw [if_neg h0] at happ
      by_cases hroom : m * bytes ≤ roomA
      · rw [if_pos hroom] at happ
        refine ⟨.inr (by simpa using hroom), ?_⟩
        cases ha : h.alloc (.cells elem new true 1 []) with
        | none => rw [ha] at happ; cases happ
        | some bh =>
          obtain ⟨b', h1⟩ := bh
          rw [ha] at happ; cases happ
          have := fresh h none 0 0 b' 1 [] [] (Post.refl hr) rfl (by omega) (by simpa using hroom) ⟨[], by simp only [VRs], by simp, fun n => rfl⟩ (by simpa using ha) (fun _ _ hin => by cases hin) hnl
          simpa using this
      · rw [if_neg hroom] at happ; cases happ
  case eslice =>
    simp only [VR] at hs; obtain ⟨ad, k, rfl⟩ := hs
    refine ⟨some ad, 0, k, rfl, ?_⟩
    by_cases h0 : m = 0
    · rw [if_pos h0] at happ; cases happ
      refine ⟨.inl (by omega), Sim.of_run hr (x := .slice (some ad) 0 k) ?_ (by simp only [VR]; exact ⟨ad, k, rfl⟩)⟩
      unfold appendV
      rw [if_pos (by omega)]
      rw [hnil h0] at hnS0
      subst h0
      simp [hnS0, storeCells]
    · rw [if_neg h0] at happ; cases happ
  case pslice cs o n cap =>
    have hs' := hs
    simp only [VR] at hs; obtain ⟨B, d, k, rfl, hnk, hck, hpc⟩ := hs
    refine ⟨some ⟨B, d + o, none⟩, n, k, rfl, ?_⟩
    by_cases h0 : m = 0
    · rw [if_pos h0] at happ; cases happ
      refine ⟨.inl (by omega), Sim.of_run hr (x := .slice (some ⟨B, d + o, none⟩) n k) ?_ hs'⟩
      unfold appendV
      rw [hnil h0] at hnS0
      rw [if_pos (by omega)]
      subst h0
      simp [hnS0, storeCells]
    · rw [if_neg h0] at happ
      cases cap with
      | none => cases happ
      | some c =>
        simp only at happ hck
        subst hck
        by_cases hle : n + m ≤ k
        · rw [if_pos hle] at happ; cases happ
        rw [if_neg hle] at happ
        by_cases hroom : (n + m) * bytes ≤ roomA
        rotate_left
        · rw [if_neg hroom] at happ; cases happ
        rw [if_pos hroom] at happ
        refine ⟨.inr hroom, ?_⟩
        cases hcut : cut cs o (n * e) with
        | none => rw [hcut] at happ; cases happ
        | some old =>
          rw [hcut] at happ
          simp only at happ
          cases ha : h.alloc (.cells elem (old ++ new) true 1 []) with
          | none => rw [ha] at happ; cases happ
          | some bh =>
            obtain ⟨b', h1⟩ := bh
            rw [ha] at happ; cases happ
            obtain ⟨os, q1, q2, q3⟩ := readP_sim hr hpc hcut
            refine fresh h _ n k b' 1 [] old (Post.refl hr) rfl hle hroom ⟨os, q2, q1, fun nn => ?_⟩ ha (fun _ _ hin => by cases hin) hnl
            simp only [Builtin.firstCells]
            rw [← q1]
            exact run_loadCells' (P := P) (w := { w with drawn := nn }) q3
  case slice b o n cap e' =>
    have hs' := hs
    simp only [VR] at hs; obtain ⟨B, tot, k, hb, rfl, hnk, hck⟩ := hs
    by_cases hee : e' ≠ e
    · rw [if_pos hee] at happ; cases happ
    rw [if_neg hee] at happ
    have hee' : e' = e := by simpa using hee
    subst hee'
    refine ⟨some ⟨B, o, none⟩, n, k, rfl, ?_⟩
    by_cases h0 : m = 0
    · rw [if_pos h0] at happ; cases happ
      refine ⟨.inl (by omega), Sim.of_run hr (x := .slice (some ⟨B, o, none⟩) n k) ?_ hs'⟩
      unfold appendV
      rw [hnil h0] at hnS0
      rw [if_pos (by omega)]
      subst h0
      simp [hnS0, storeCells]
    rw [if_neg h0] at happ
    cases cap with
    | some c =>
      simp only at happ hck
      subst hck
      by_cases hle : n + m ≤ k
      · rw [if_pos hle] at happ
        cases hw : writeAt h b (o + n * e') new with
        | none => rw [hw] at happ; cases happ
        | some h1 =>
          rw [hw] at happ; cases happ
          obtain ⟨w', hrun, hp⟩ := inplace B o n k b _ tot hb rfl hle hw
          exact ⟨.inl hle, ρ, _, w', hrun, by simp only [VR]; exact ⟨B, tot, k, hb, rfl, hle, rfl⟩, hp⟩
      · rw [if_neg hle] at happ
        by_cases hroom : (n + m) * bytes ≤ roomA
        rotate_left
        · rw [if_neg hroom] at happ; cases happ
        rw [if_pos hroom] at happ
        refine ⟨.inr hroom, ?_⟩
        cases hrd : readAt h b o (n * e') with
        | none => rw [hrd] at happ; cases happ
        | some old =>
          rw [hrd] at happ
          simp only at happ
          cases ha : h.alloc (.cells elem (old ++ new) true 1 []) with
          | none => rw [ha] at happ; cases happ
          | some bh =>
            obtain ⟨b', h1⟩ := bh
            rw [ha] at happ; cases happ
            obtain ⟨os, q1, q2, q3⟩ := read_sim hr hb hrd
            refine fresh h _ n k b' 1 [] old (Post.refl hr) rfl hle hroom ⟨os, q2, q1, fun nn => ?_⟩ ha (fun _ _ hin => by cases hin) hnl
            simp only [Builtin.firstCells]
            rw [← q1]
            exact run_loadCells' (P := P) (w := { w with drawn := nn }) q3
    | none =>
      simp only at happ hck
      obtain ⟨hbn, hBN, ao, oo, hg, hB, hor⟩ := hr.dom b B tot hb
      rw [hg] at happ
      cases ao with
      | map kk es => simp at happ
      | iter s p => simp at happ
      | loop r => simp at happ
      | dead => simp at happ
      | cells tb cs own frz anc =>
        cases own with
        | false => simp at happ
        | true =>
          obtain ⟨xs, lo, hi, rfl, hxl, hcr, hfr⟩ := hor
          have hcl := hcr.length
          simp only at happ
          by_cases hfit : o + (n + m) * e' ≤ cs.length
          · rw [if_pos hfit] at happ
            have hle : n + m ≤ k := by
              have : (n + m) * e' ≤ k * e' := by omega
              exact Nat.le_of_mul_le_mul_right this hepos
            cases hw : writeAt h b (o + n * e') new with
            | none => rw [hw] at happ; cases happ
            | some h1 =>
              rw [hw] at happ; cases happ
              obtain ⟨w', hrun, hp⟩ := inplace B o n k b _ tot hb rfl hle hw
              exact ⟨.inl hle, ρ, _, w', hrun, by simp only [VR]; exact ⟨B, tot, k, hb, rfl, hle, hck⟩, hp⟩
          · rw [if_neg hfit] at happ
            by_cases hall : (n + m) * bytes ≤ roomA ∧ o = 0 ∧ frz ≤ n * e' + 1 ∧ tb = elem
            rotate_left
            · rw [if_neg hall] at happ; cases happ
            rw [if_pos hall] at happ
            obtain ⟨hroom, rfl, hfz, rfl⟩ := hall
            refine ⟨.inr hroom, ?_⟩
            cases hcut : cut cs 0 (n * e') with
            | none => rw [hcut] at happ; cases happ
            | some old =>
              rw [hcut] at happ
              simp only at happ
              obtain ⟨c1, c2, c3⟩ := cut_get hcut
              -- the old block is given up
              obtain ⟨o', ho'⟩ : ∃ o' : AObj, o' = (if n * e' = cs.length then .cells tb cs false frz anc else .dead) := ⟨_, rfl⟩
              obtain ⟨anc', hanc'⟩ : ∃ l : List (Nat × Nat), l = (if n * e' = cs.length then (b, n * e') :: anc else anc) := ⟨_, rfl⟩
              rw [← ho', ← hanc'] at happ
              have ho2 : o' = .cells tb cs false frz anc ∨ o' = .dead := by rw [ho']; split <;> simp
              obtain ⟨p0, gb, gs⟩ := Post.weaken (lim := n * e') hr hb hg ho2
              cases ha : (kill (h.set b o') (n * e') anc).alloc (.cells tb (old ++ new) true frz anc') with
              | none => rw [ha] at happ; cases happ
              | some bh =>
                obtain ⟨b', h1⟩ := bh
                rw [ha] at happ; cases happ
                have hancs : ∀ a n, (a, n) ∈ anc' → ∃ x, ρ a = some x := fun a nn hin => by
                  rw [hanc'] at hin
                  split at hin
                  · rcases List.mem_cons.1 hin with e | hin
                    · cases e; exact ⟨_, hb⟩
                    · exact (hr.ancs b B tot _ hb hg a nn hin).2
                  · exact (hr.ancs b B tot _ hb hg a nn hin).2
                obtain ⟨os, q1, q2, q3⟩ := read_sim (o := 0) hr hb (show readAt h b 0 (n * e') = some old by simp only [readAt, Heap.find_of (hr.dom _ _ _ hb).1 hg]; exact hcut)
                by_cases hle : n + m ≤ k
                · -- in place
                  have hmul : (n + m) * e' ≤ k * e' := Nat.mul_le_mul_right _ hle
                  rw [Nat.add_mul] at hmul
                  have hyl : ys.length = m * e' := by rw [hly, hnl]
                  have hne : ys ≠ [] := by
                    intro e0
                    rw [e0] at hyl
                    have : 0 < m * e' := Nat.mul_pos (Nat.pos_of_ne_zero h0) hepos
                    simp at hyl; omega
                  have hst := run_storeCells (P := P) ys xs B (n * e') 0 tb lo hi w hB (by omega) (oneCells hnew hac) (fun j hj1 hj2 => (hfr rfl).use (by omega) (by omega))
                  rw [if_neg hne, Nat.add_zero] at hst
                  obtain ⟨p1, p2⟩ := Post.extend (lim := n * e') (ys := ys) p0.rel ha hBN hB hxl (by omega) (hfr rfl) (by
                    intro i a hia
                    rw [putV_get _ _ _ (by omega)]
                    by_cases hlt : i < n * e'
                    · rw [if_neg (by omega)]
                      rw [List.getElem?_append_left (by omega), c3 i hlt, Nat.zero_add] at hia
                      exact hcr i a hia
                    · rw [List.getElem?_append_right (by omega), c1] at hia
                      have hil := (List.getElem?_eq_some_iff.1 hia).1
                      rw [if_pos (by omega)]
                      exact hnew.get hia) ⟨b, tot, hb⟩ hancs (by
                    intro b2 m2 hb2
                    by_cases e2 : b2 = b
                    · subst e2
                      rw [gb]
                      by_cases hc : n * e' = cs.length
                      · rw [if_pos hc] at ho' hanc'
                        right
                        exact ⟨tb, cs, frz, anc, n * e', by rw [ho'], by rw [hanc']; simp, by omega, Nat.le_refl _⟩
                      · rw [if_neg hc] at ho'; left; rw [ho']
                    · rcases gs b2 m2 e2 hb2 with hd | ⟨ty2, cs2, frz2, anc2, n2, hc, hin, hl1, hl2⟩
                      · exact .inl hd
                      · refine .inr ⟨ty2, cs2, frz2, anc2, n2, hc, ?_, hl1, hl2⟩
                        rw [hanc']; split
                        · exact List.mem_cons_of_mem _ hin
                        · exact hin)
                  refine ⟨_, .slice (some ⟨B, 0, none⟩) (n + m) k, _, ?_, ?_, p0.trans p1⟩
                  · unfold appendV
                    rw [if_pos hle]
                    simp only [addr_add, Nat.zero_add, Sem.run_bind, hnS0, hst, Result.andThen_ok, Sem.run_pure]
                  · simp only [VR]
                    exact ⟨B, tot, k, p2, rfl, hle, hck⟩
                · refine fresh _ _ n k b' frz anc' old p0 rfl hle hroom ⟨os, q2, q1, fun nn => ?_⟩ ha hancs hnl
                  simp only [Builtin.firstCells]
                  rw [← q1]
                  exact run_loadCells' (P := P) (w := { w with drawn := nn }) q3
end
end Go.AM

/- THE BUILTIN APPEND; COPY. -/
namespace Go.AM
section
variable {C : Cx} {ρ : Pl} {h h' : Heap} {w : World} {P : Program} {t : Tm} {a : Act}

theorem run_typeBytes {e : TypeId} {n : Nat} (hb : bytesA P e = some n) : ∃ i, (typeInfo e).run P w = .ok i w ∧ i.bytes = n := by
  unfold bytesA at hb
  cases hi : P.info? e with
  | none => rw [hi] at hb; cases hb
  | some i => rw [hi] at hb; simp at hb; exact ⟨i, run_typeInfo hi, hb⟩

theorem zeroV_sim {e : TypeId} {zs : List AV} (hz : zeroCs P e = some zs) : ∃ v, (∀ w : World, (zeroValue e).run P w = .ok v w) ∧ (∀ st ρ, VRs st ρ zs v.cells.toList) ∧ v.cells.size = zs.length := by
  unfold zeroCs at hz
  simp only [Option.map_eq_some_iff] at hz
  obtain ⟨z, hz, rfl⟩ := hz
  unfold zeroA at hz
  cases hi : P.info? e with
  | none => rw [hi] at hz; simp at hz
  | some i =>
    rw [hi] at hz
    simp only [Option.bind_some] at hz
    cases hzz : i.zero with
    | none => rw [hzz] at hz; simp at hz
    | some v =>
      rw [hzz] at hz
      simp only [Option.bind_some] at hz
      have h1 := fun st ρ => valA_sim (st := st) (ρ := ρ) v z hz
      refine ⟨v, fun w => by simp [zeroValue, run_typeInfo hi, hzz], fun st ρ => (h1 st ρ).1.cells (h1 st ρ).2, ?_⟩
      have := ((h1 (fun _ _ => none) (fun _ => none)).1.cells (h1 (fun _ _ => none) (fun _ => none)).2).length
      simpa using this

theorem append_run {ts tx el ty : TypeId} {e bytes m : Nat} {zv x : Value} {base : Option Addr} {sLen sCap : Nat} (hu : P.underlying ts = some (.slice el)) (htx : (∃ e2, P.underlying tx = some (.slice e2)) ∨ P.underlying tx = some .string)
    (hn : szA P el = some e) (hb : bytesA P el = some bytes) (hb0 : bytes ≠ 0) (hzv : ∀ w : World, (zeroValue el).run P w = .ok zv w) (hroom : sLen + m ≤ sCap ∨ (sLen + m) * bytes ≤ roomA)
    (hlen : ∀ w : World, (Builtin.lenOf x).run P w = .ok m w) :
    (Builtin.append_ #[ts, tx] ty #[.slice base sLen sCap, x]).run P w = (appendV el e bytes zv base sLen sCap m (.slice base sLen sCap) (Builtin.firstCells e m x)).run P w := by
  obtain ⟨i, hi1⟩ : ∃ i, (∀ w : World, (typeInfo el).run P w = .ok i w) ∧ i.bytes = bytes := by
    unfold bytesA at hb
    cases hi : P.info? el with
    | none => rw [hi] at hb; cases hb
    | some i => rw [hi] at hb; simp at hb; exact ⟨i, fun w => run_typeInfo hi, hb⟩
  obtain ⟨hi1, hi2⟩ := hi1
  unfold Builtin.append_ appendV
  rcases htx with ⟨e2, hd1⟩ | hd1
  all_goals
    simp only [List.getElem?_toArray, List.getElem?_cons_zero, List.getElem?_cons_succ, Sem.run_bind, run_underlying hu, Result.andThen_ok, run_sizeOf hn, run_underlying hd1, Sem.run_pure, Bool.false_eq_true, if_false, hlen, Bool.not_false, if_true]
    by_cases hle : sLen + m ≤ sCap
    · rw [if_pos hle, if_pos hle]
      cases base <;> simp only [Sem.run_bind]
    · rw [if_neg hle, if_neg hle]
      have hr2 : (sLen + m) * bytes ≤ roomA := hroom.resolve_left hle
      have h48 : ¬ Builtin.nextslicecap (sLen + m) sCap * bytes > 2 ^ 48 := by
        have h1 := nextcap_le (need := sLen + m) (old := sCap) (by omega)
        have h2 : Builtin.nextslicecap (sLen + m) sCap * bytes ≤ 3 * (sLen + m) * bytes := Nat.mul_le_mul_right _ h1
        rw [Nat.mul_assoc] at h2
        unfold roomA at hr2
        omega
      simp only [Sem.run_bind, hi1, Result.andThen_ok, hi2]
      rw [if_neg (by simp [hb0])]
      simp only [Sem.run_bind, Sem.run_pure, Result.andThen_ok, hi1, hi2]
      rw [if_neg h48]
      simp only [Sem.run_bind, Sem.run_pure, Result.andThen_ok, hi1, run_askRoom, hzv]

/-- zeros that are appended -/
def zerosS (el : TypeId) (e m : Nat) : Sem (Array Value) := if m * e = 0 then pure #[] else do pure (Builtin.zeroCells (← zeroValue el).cells m)

theorem append_run_zeros {ts tx el ty : TypeId} {e bytes : Nat} {m : Nat} {zv : Value} {base : Option Addr} {sLen sCap : Nat} {k : IntKind} (hu : P.underlying ts = some (.slice el)) (htx : P.underlying tx = some (.int k))
    (hn : szA P el = some e) (hb : bytesA P el = some bytes) (hb0 : bytes ≠ 0) (hb1 : bytes ≤ 1048576) (hm : m ≤ 67108864) (hzv : ∀ w : World, (zeroValue el).run P w = .ok zv w) (hroom : sLen + m ≤ sCap ∨ (sLen + m) * bytes ≤ roomA) :
    (Builtin.append_ #[ts, tx] ty #[.slice base sLen sCap, .int .i64 m]).run P w = (appendV el e bytes zv base sLen sCap m (.slice base sLen sCap) (zerosS el e m)).run P w := by
  obtain ⟨i, hi1⟩ : ∃ i, (∀ w : World, (typeInfo el).run P w = .ok i w) ∧ i.bytes = bytes := by
    unfold bytesA at hb
    cases hi : P.info? el with
    | none => rw [hi] at hb; cases hb
    | some i => rw [hi] at hb; simp at hb; exact ⟨i, fun w => run_typeInfo hi, hb⟩
  obtain ⟨hi1, hi2⟩ := hi1
  have hw : IntKind.i64.wrap (m : Int) = m := IntWalk.i64_in _ (by omega)
  have hmb : m * bytes ≤ 67108864 * 1048576 := Nat.mul_le_mul hm hb1
  unfold Builtin.append_ appendV zerosS
  simp only [List.getElem?_toArray, List.getElem?_cons_zero, List.getElem?_cons_succ, Sem.run_bind, run_underlying hu, Result.andThen_ok, run_sizeOf hn, run_underlying htx, Sem.run_pure, if_true, asInt, asIntOf, hw]
  rw [if_neg (show ¬ ((m : Int) < 0) by omega)]
  simp only [Sem.run_bind, hi1, Result.andThen_ok, hi2]
  have hle48 : (m : Int) * (bytes : Int) ≤ 70368744177664 := by
    rw [← Int.natCast_mul]
    exact Int.ofNat_le.2 (Nat.le_trans hmb (by decide))
  rw [if_neg (show ¬ ((m : Int) * (bytes : Int) > 2 ^ 48) from fun hgt => absurd (Int.lt_of_lt_of_le hgt hle48) (by decide))]
  simp only [Sem.run_bind, Sem.run_pure, Result.andThen_ok, Int.toNat_natCast, Bool.not_true, Bool.false_eq_true, if_false]
  by_cases hle : sLen + m ≤ sCap
  · rw [if_pos hle, if_pos hle]
    cases base <;> simp only [Sem.run_bind]
  · rw [if_neg hle, if_neg hle]
    have hr2 : (sLen + m) * bytes ≤ roomA := hroom.resolve_left hle
    have h48 : ¬ Builtin.nextslicecap (sLen + m) sCap * bytes > 2 ^ 48 := by
      have h1 := nextcap_le (need := sLen + m) (old := sCap) (by omega)
      have h2 : Builtin.nextslicecap (sLen + m) sCap * bytes ≤ 3 * (sLen + m) * bytes := Nat.mul_le_mul_right _ h1
      rw [Nat.mul_assoc] at h2
      unfold roomA at hr2
      omega
    have hneed : ¬ ((sLen + m : Nat) : Int) > IntKind.i64.max := by
      have : sLen + m ≤ (sLen + m) * bytes := Nat.le_mul_of_pos_right _ (Nat.pos_of_ne_zero hb0)
      unfold roomA at hr2
      simp [IntKind.max, IntKind.signed, IntKind.bits]
      omega
    simp only [Sem.run_bind, hi1, Result.andThen_ok, hi2]
    rw [if_neg (fun hc => hneed hc.1)]
    simp only [Sem.run_bind, Sem.run_pure, Result.andThen_ok, hi1, hi2]
    rw [if_neg h48]
    simp only [Sem.run_bind, Sem.run_pure, Result.andThen_ok, hi1, run_askRoom, hzv]
end
end Go.AM
