/-
  An interpreter of the model's code over abstract values: immutable slices are plain lists, the call's own memory is a small abstract heap. Its soundness stands in the text AbsSound. No conditions: definitions and laws of the interpreter alone. The interpreter without a bound on its rounds, and its laws. No conditions.
-/
import Derived.Calls
import Derived.Scope
import Derived.Below
import Derived.Orders
set_option linter.unusedSimpArgs false
set_option linter.unusedVariables false
set_option maxRecDepth 100000
set_option maxHeartbeats 16000000
namespace Go.Proofs.YtenhjccadhlgoaaGreat.Abs
open Go
section
inductive AV where
 | bool (b : Bool)
 | int (k : IntKind) (n : Int)
 | str (s : ByteArray)
 | ro (cs : List AV) (len : Nat) (full : Bool)
 | rptr (cs : List AV)
 | sl (b off len : Nat) (cap : Option Nat) (sz : Nat)
 | ptr (b off : Nat)
 | nilptr
 | ext (v : Value)
 | nilmap
 | func (fn : Fn) (first captured : List AV)
 | nilfunc
 | iface (t : TypeId) (v : AV)
 | niliface
 | agg (cs : List AV)
 | tuple (vs : List AV)
 | fresh (cs : List AV) (len sz : Nat)
 deriving Inhabited
inductive Obj where
 | cells (cs : List AV) (grow frz : Bool)
abbrev Heap := Nat → Option Obj
theorem nr {α : Sort _} {a b : α} (h : a = b) : a = b := by cases h; exact Eq.trans (Eq.refl a) (Eq.refl a)
def nx {α β : Type} (x : Option α) (k : α → Option β) : Option β := match x with
 | some a => k a
 | none => none
def mp {α β : Type} (x : Option α) (k : α → β) : Option β := match x with
 | some a => some (k a)
 | none => none
theorem nx_some {α β : Type} (a : α) (k : α → Option β) : nx (some a) k = k a := nr rfl
theorem nx_none {α β : Type} (k : α → Option β) : nx (none : Option α) k = none := nr rfl
theorem mp_some {α β : Type} (a : α) (k : α → β) : mp (some a) k = some (k a) := nr rfl
theorem mp_none {α β : Type} (k : α → β) : mp (none : Option α) k = none := nr rfl
theorem nx_ite {α β : Type} (c : Prop) [Decidable c] (x y : Option α) (k : α → Option β) : nx (if c then x else y) k = if c then nx x k else nx y k := by split <;> rfl
theorem mp_ite {α β : Type} (c : Prop) [Decidable c] (x y : Option α) (k : α → β) : mp (if c then x else y) k = if c then mp x k else mp y k := by split <;> rfl
@[congr] theorem nx_congr {α β : Type} {x y : Option α} (k : α → Option β) (h : Unit → x = y) : nx x k = nx y k := by rw [h ()]
@[congr] theorem mp_congr {α β : Type} {x y : Option α} (k : α → β) (h : Unit → x = y) : mp x k = mp y k := by rw [h ()]
theorem nx_eq_some {α β : Type} {x : Option α} {k : α → Option β} {b : β} : nx x k = some b ↔ ∃ a, x = some a ∧ k a = some b := by cases x <;> simp [nx]
theorem mp_eq_some {α β : Type} {x : Option α} {k : α → β} {b : β} : mp x k = some b ↔ ∃ a, x = some a ∧ k a = b := by cases x <;> simp [mp]
def upd {α : Type} (f : Nat → α) (i : Nat) (a : α) : Nat → α := fun j => if j = i then a else f j
theorem upd_apply {α : Type} (f : Nat → α) (i : Nat) (a : α) (j : Nat) : upd f i a j = if j = i then a else f j := nr rfl
def AV.weak : AV → AV
 | .ro cs n _ => .ro (go cs) n false
 | .rptr cs => .rptr (go cs)
 | .agg cs => .agg (go cs)
 | .tuple vs => .tuple (go vs)
 | .fresh cs n s => .fresh (go cs) n s
 | .iface t v => .iface t v.weak
 | .func fn a b => .func fn (go a) (go b)
 | a => a
where go : List AV → List AV
 | [] => []
 | a :: as => a.weak :: go as
abbrev weaks (l : List AV) : List AV := AV.weak.go l
def AV.cells : AV → List AV
 | .agg cs => cs
 | v => [v]
def AV.isCell : AV → Bool
 | .agg _ | .tuple _ | .fresh .. => false
 | _ => true
def AV.noRef : AV → Bool
 | .bool _ | .int .. | .str _ | .nilptr | .nilmap | .nilfunc | .niliface => true
 | .agg cs => go cs
 | .tuple cs => go cs
 | _ => false
where go : List AV → Bool
 | [] => true
 | a :: as => a.noRef && go as
def constAV : Value → Option AV
 | .bool b => some (.bool b)
 | .int k n => some (.int k n)
 | .string s => some (.str s)
 | .pointer none => some .nilptr
 | .slice none 0 0 => some (.ro [] 0 true)
 | .map none => some .nilmap
 | .nilFunc => some .nilfunc
 | .nilIface => some .niliface
 | .func (.func f) ⟨[]⟩ ⟨[]⟩ => some (.func (.func f) [] [])
 | .agg ⟨l⟩ => mp (go l) .agg
 | .tuple ⟨[]⟩ => some (.tuple [])
 | _ => none
where go : List Value → Option (List AV)
 | [] => some []
 | .agg _ :: _ => none
 | .tuple _ :: _ => none
 | v :: vs => nx (constAV v) fun a => mp (go vs) (a :: ·)
inductive CMode where
 | ro | top | inl
 | spec (g : List AV → Option AV)
def CMode.isInl : CMode → Bool
 | .inl => true
 | _ => false
def CMode.isSpec : CMode → Bool
 | .spec _ => true
 | _ => false
structure Ctx where
 P : Program
 G : Nat → Option (List AV)
 mode : FuncId → CMode
 weakZ : TypeId → Bool
 strongA : TypeId → Bool := fun _ => false
abbrev CallFn := FuncId → List AV → Heap → Nat → Option (AV × Heap × Nat)
structure St where
 env : Nat → AV
 heap : Heap
 next : Nat
variable (X : Ctx)
def evalA (env : Nat → AV) : Operand → Option AV
 | .tmp t => some (env t)
 | .const v => constAV v
 | .global g => mp (X.G g) .rptr
 | .func f => some (.func (.func f) [] [])
def isIntD : TypeDesc → Bool
 | .int _ => true
 | _ => false
def isAggD : TypeDesc → Bool
 | .struct _ | .array _ _ => true
 | _ => false
def sbA (t : TypeId) : Option (Nat × Nat) := mp (X.P.info? t) fun i => (i.size, i.bytes)
def sizeA (t : TypeId) : Option Nat := mp (X.P.info? t) (·.size)
def shapeA (t : TypeId) : Option (Bool × Nat) :=
 match X.P.underlying t, X.P.info? t with
 | some d, some i => some (isAggD d, i.size)
 | _, _ => none
def zeroA (t : TypeId) : Option AV :=
 match X.P.info? t with
 | some i => match i.zero with
  | some z => mp (constAV z) fun a => if X.weakZ t then a.weak else a
  | none => none
 | none => none
def zeroN (t : TypeId) : Option AV :=
 match X.P.info? t with
 | some i => match i.zero with
  | some z => mp (constAV z) fun a => if X.weakZ t && !X.strongA t then a.weak else a
  | none => none
 | none => none
def cellsAt (h : Heap) : AV → Option (List AV × List Nat)
 | .rptr cs => some (cs, [])
 | .ptr b off => match h b with
  | some (.cells cs _ _) => some (cs.drop off, [b])
  | _ => none
 | _ => none
def splice (cs : List AV) (off : Nat) (vs : List AV) : List AV := cs.take off ++ vs ++ cs.drop (off + vs.length)
structure Delta where
 val : AV
 rd : List Nat
 wr : List (Nat × Option Obj)
inductive Eff where
 | loc (d : Delta)
 | glob (v : AV) (h : Heap) (next : Nat)
def valE (v : AV) : Option Eff := some (.loc ⟨v, [], []⟩)
def aLoad (h : Heap) (t : TypeId) (p : AV) : Option Eff :=
 match shapeA X t, cellsAt h p with
 | some (true, n), some (cs, rd) => if n ≤ cs.length then some (.loc ⟨.agg (cs.take n), rd, []⟩) else none
 | some (false, _), some (c :: _, rd) => some (.loc ⟨c, rd, []⟩)
 | _, _ => none
def AV.tupleB : AV → Bool
 | .tuple _ | .fresh .. => true
 | _ => false
def aStore (h : Heap) (t : TypeId) (p v : AV) : Option Eff :=
 match sizeA X t, p with
 | some n, .ptr b off => match h b with
  | some (.cells cs g false) =>
   if v.cells.length = n ∧ off + n ≤ cs.length ∧ v.tupleB = false then
    some (.loc ⟨.tuple [], [b], [(b, some (.cells (splice cs off v.cells) g false))]⟩) else none
  | _ => none
 | _, _ => none
def aAlloc (id : Nat) (t : TypeId) : Option Eff :=
 nx (zeroN X t) fun z => if z.tupleB then none else some (.loc ⟨.ptr id 0, [], [(id, some (.cells z.cells false false))]⟩)
def aBox (id : Nat) (v : AV) : Option Eff :=
 if v.tupleB then none else some (.loc ⟨.ptr id 0, [], [(id, some (.cells v.cells false false))]⟩)
def fillA (place : Nat → Option (Nat × Nat)) (cells : List AV) : List (Nat × AV) → Option (List AV)
 | [] => some cells
 | (i, v) :: rest =>
  match place i with
  | none => none
  | some (off, size) =>
   if v.cells.length ≠ size ∨ off + v.cells.length > cells.length ∨ v.tupleB then none
   else fillA place (splice cells off v.cells) rest
def partsA (env : Nat → AV) : List (Nat × Operand) → Option (List (Nat × AV))
 | [] => some []
 | (i, x) :: r => nx (evalA X env x) fun a => mp (partsA env r) ((i, a) :: ·)
def fieldPlaces : List Field → Option (List (Nat × Nat))
 | [] => some []
 | f :: fs => nx (sizeA X f.type) fun n => mp (fieldPlaces fs) ((f.offset, n) :: ·)
def aBuild (t : TypeId) (parts : List (Nat × AV)) : Option Eff :=
 nx (zeroA X t) fun z =>
  if z.tupleB then none else
  match X.P.underlying t with
  | some (.struct fields) => nx (fieldPlaces X fields.toList) fun pl => nx (fillA (pl[·]?) z.cells parts) fun cs => valE (.agg cs)
  | some (.array _ elem) => nx (sizeA X elem) fun size => nx (fillA (fun i => some (i * size, size)) z.cells parts) fun cs => valE (.agg cs)
  | _ => none
def replA (n : Nat) (zc : List AV) : List AV := (List.replicate n zc).flatten
def aBuildSlice (id : Nat) (t : TypeId) (len : Nat) (parts : List (Nat × AV)) : Option Eff :=
 match X.P.underlying t with
 | some (.slice elem) =>
  nx (sizeA X elem) fun size =>
   if len * size > 2 ^ 24 ∨ size = 0 then none else
   nx (zeroA X elem) fun z =>
    if z.cells.length ≠ size ∨ z.tupleB then none else
    nx (fillA (fun i => some (i * size, size)) (replA len z.cells) parts) fun cs =>
     some (.loc ⟨.sl id 0 len (some len) size, [], [(id, some (.cells cs false false))]⟩)
 | _ => none
def aMakeSlice (id : Nat) (t : TypeId) (l c : AV) : Option Eff :=
 match X.P.underlying t, l, c with
 | some (.slice elem), .int _ ln, .int _ cn =>
  nx (sbA X elem) fun (size, bytes) =>
   nx (zeroA X elem) fun z =>
    if z.cells.length ≠ size ∨ size = 0 ∨ z.tupleB then none else
    if 0 ≤ ln ∧ ln ≤ cn ∧ bytes * cn ≤ 2 ^ 47 ∧ cn ≤ 2 ^ 47 then
     some (.loc ⟨.sl id 0 ln.toNat (some cn.toNat) size, [], [(id, some (.cells (replA cn.toNat z.cells) false false))]⟩)
    else none
 | _, _, _ => none
def aFieldAddr (s : TypeId) (p : AV) (field : Nat) : Option Eff :=
 match X.P.underlying s with
 | some (.struct fields) =>
  match fields[field]? with
  | some f => nx (sizeA X f.type) fun n => if n = 0 then none else
   match p with
   | .ptr b off => valE (.ptr b (off + f.offset))
   | .rptr cs => valE (.rptr (cs.drop f.offset))
   | _ => none
  | none => none
 | _ => none
def partAV (t : TypeId) (cs : List AV) (off : Nat) : Option AV :=
 match shapeA X t with
 | some (true, n) => some (.agg ((cs.drop off).take n))
 | some (false, _) => cs[off]?
 | none => none
def aField (t : TypeId) (x : AV) (field : Nat) : Option Eff :=
 match X.P.underlying t, x with
 | some (.struct fields), .agg cs =>
  match fields[field]? with
  | some f => nx (partAV X f.type cs f.offset) valE
  | none => none
 | _, _ => none
def aIndexAddr (t : TypeId) (x i : AV) : Option Eff :=
 match X.P.underlying t, i with
 | some (.slice elem), .int _ n =>
  nx (sizeA X elem) fun size => if size = 0 then none else
  match x with
  | .ro cs len _ => if 0 ≤ n ∧ n < len then valE (.rptr (cs.drop (n.toNat * size))) else none
  | .sl b off len _ sz => if 0 ≤ n ∧ n < len ∧ sz = size then valE (.ptr b (off + n.toNat * size)) else none
  | _ => none
 | some (.array len elem), .int _ n =>
  nx (sizeA X elem) fun size => if size = 0 then none else
  if 0 ≤ n ∧ n < len then
   match x with
   | .rptr cs => valE (.rptr (cs.drop (n.toNat * size)))
   | .ptr b off => valE (.ptr b (off + n.toNat * size))
   | _ => none
  else none
 | _, _ => none
def aIndex (t : TypeId) (x i : AV) : Option Eff :=
 match X.P.underlying t, x, i with
 | some (.array len elem), .agg cs, .int _ n =>
  nx (sizeA X elem) fun size => if 0 ≤ n ∧ n < len then nx (partAV X elem cs (n.toNat * size)) valE else none
 | some .string, .str s, .int _ n =>
  if 0 ≤ n then match s[n.toNat]? with
   | some b => valE (.int .u8 b.toNat)
   | none => none
  else none
 | _, _, _ => none
def boundA (x : Option AV) (d : Nat) : Option Nat :=
 match x with
 | none => some d
 | some (.int _ n) => if 0 ≤ n then some n.toNat else none
 | _ => none
def aSliceRo (cs : List AV) (len : Nat) (full : Bool) (size l h : Nat) (m : Option Nat) : Option Eff :=
 if l ≤ h ∧ h ≤ len then
  match m with
  | none => valE (.ro ((cs.drop (l * size)).take ((h - l) * size)) (h - l) (full && h == len))
  | some m => if h ≤ m ∧ m ≤ len then valE (.ro ((cs.drop (l * size)).take ((h - l) * size)) (h - l) (h == m)) else none
 else none
def aSliceSl (b off len : Nat) (cap : Option Nat) (size l h : Nat) (m : Option Nat) : Option Eff :=
 match m, cap with
 | none, none => if l ≤ h ∧ h ≤ len then (if l < len then valE (.sl b (off + l * size) (h - l) none size) else valE (.ro [] 0 false)) else none
 | none, some c => if l ≤ h ∧ h ≤ c then (if l < c then valE (.sl b (off + l * size) (h - l) (some (c - l)) size) else valE (.ro [] 0 true)) else none
 | some m, none => if l ≤ h ∧ h ≤ m ∧ m ≤ len then (if l < m then valE (.sl b (off + l * size) (h - l) (some (m - l)) size) else valE (.ro [] 0 true)) else none
 | some m, some c => if l ≤ h ∧ h ≤ m ∧ m ≤ c then (if l < m then valE (.sl b (off + l * size) (h - l) (some (m - l)) size) else valE (.ro [] 0 true)) else none
def aSlice (t : TypeId) (x : AV) (lo hi mx : Option AV) : Option Eff :=
 match X.P.underlying t with
 | some (.slice elem) =>
  nx (sizeA X elem) fun size => if size = 0 then none else
  match x with
  | .ro cs len full => nx (boundA lo 0) fun l => nx (boundA hi len) fun h =>
   match mx with
   | none => aSliceRo cs len full size l h none
   | some v => nx (boundA (some v) 0) fun m => aSliceRo cs len full size l h (some m)
  | .sl b off len cap sz => if sz ≠ size then none else nx (boundA lo 0) fun l => nx (boundA hi len) fun h =>
   match mx with
   | none => aSliceSl b off len cap size l h none
   | some v => nx (boundA (some v) 0) fun m => aSliceSl b off len cap size l h (some m)
  | _ => none
 | some (.array n elem) =>
  nx (sizeA X elem) fun size => if size = 0 then none else
  if mx.isSome then none else
  nx (boundA lo 0) fun l => nx (boundA hi n) fun h =>
  match x with
  | .rptr cs => if n * size ≤ cs.length then aSliceRo (cs.take (n * size)) n true size l h none else none
  | _ => none
 | some .string =>
  if mx.isSome then none else
  match x with
  | .str s => nx (boundA lo 0) fun l => nx (boundA hi s.size) fun h => if l ≤ h ∧ h ≤ s.size then valE (.str (s.extract l h)) else none
  | _ => none
 | _ => none
def aSliceP (h : Heap) (t : TypeId) (b off : Nat) (lo hi mx : Option AV) : Option Eff :=
 match X.P.underlying t with
 | some (.array n elem) =>
  nx (sizeA X elem) fun size => if size = 0 then none else
  if mx.isSome then none else
  nx (boundA lo 0) fun l => nx (boundA hi n) fun hh =>
  match h b with
  | some (.cells cs _ _) =>
   if off + n * size ≤ cs.length ∧ l ≤ hh ∧ hh ≤ n then
    (if l < n then some (.loc ⟨.sl b (off + l * size) (hh - l) (some (n - l)) size, [b], []⟩) else some (.loc ⟨.ro [] 0 true, [b], []⟩))
   else none
  | none => none
 | _ => none
def slcX (h : Heap) (t : TypeId) (x : AV) (lo hi mx : Option AV) : Option Eff :=
 match x with
 | .ptr b off => aSliceP X h t b off lo hi mx
 | x => aSlice X t x lo hi mx
def arithA (op : BinOp) (k : IntKind) (x y : Int) : Option AV :=
 match op with
 | .add => some (.int k (k.wrap (x + y)))
 | .sub => some (.int k (k.wrap (x - y)))
 | .mul => some (.int k (k.wrap (x * y)))
 | .quo => if y = 0 then none else some (.int k (k.wrap (x.tdiv y)))
 | .rem => if y = 0 then none else some (.int k (x.tmod y))
 | .eql => some (.bool (decide (x = y)))
 | .neq => some (.bool (!decide (x = y)))
 | .lss => some (.bool (decide (x < y)))
 | .leq => some (.bool (decide (x ≤ y)))
 | .gtr => some (.bool (decide (x > y)))
 | .geq => some (.bool (decide (x ≥ y)))
 | .and => some (.int k (k.wrap (BitVec.ofInt k.bits x &&& BitVec.ofInt k.bits y).toNat))
 | .or => some (.int k (k.wrap (BitVec.ofInt k.bits x ||| BitVec.ofInt k.bits y).toNat))
 | .xor => some (.int k (k.wrap (BitVec.ofInt k.bits x ^^^ BitVec.ofInt k.bits y).toNat))
 | .andNot => some (.int k (k.wrap (BitVec.ofInt k.bits x &&& ~~~ BitVec.ofInt k.bits y).toNat))
 | _ => none
def intTy (P : Program) (t : TypeId) (k : IntKind) : Bool :=
 match P.underlying t with
 | some (.int k') => decide (k' = k)
 | _ => false
def ints3 (P : Program) (t : TypeId) (k : IntKind) : Bool :=
 match P.underlying t with
 | some (.struct fs) => match fs.toList with
  | [f, g, h] => (f.name != "_" && g.name != "_" && h.name != "_" && f.offset == 0 && g.offset == 1 && h.offset == 2) &&
   (intTy P f.type k && intTy P g.type k && intTy P h.type k) && !P.stoodInHeld t
  | _ => false
 | _ => false
def binA (op : BinOp) (t : TypeId) (x y : AV) : Option AV :=
 match x, y with
 | .int k a, .int k' b =>
  match op with
  | .shl => if b < 0 then none else some (.int k (k.wrap (a * 2 ^ (min b.toNat k.bits))))
  | .shr => if b < 0 then none else some (.int k (a.fdiv (2 ^ (min b.toNat k.bits))))
  | op => if k = k' then arithA op k a b else none
 | .bool a, .bool b =>
  match X.P.underlying t, op with
  | some .bool, .eql => some (.bool (a == b))
  | some .bool, .neq => some (.bool (!(a == b)))
  | _, _ => none
 | .str a, .str b =>
  match op with
  | .eql => some (.bool (a.toList == b.toList))
  | .neq => some (.bool (!(a.toList == b.toList)))
  | .add => if a.size + b.size ≤ 2 ^ 62 then some (.str (a ++ b)) else none
  | _ => none
 | .agg [.int k a, .int k1 b], .agg [.int k' a', .int k1' b'] =>
  match X.P.underlying t with
  | some (.array 2 e) => match X.P.underlying e, X.P.info? e with
   | some (.int kk), some i =>
    if k = kk ∧ k1 = kk ∧ k' = kk ∧ k1' = kk ∧ i.size = 1 then
     match op with
     | .eql => some (.bool (decide (a = a') && decide (b = b')))
     | .neq => some (.bool (!(decide (a = a') && decide (b = b'))))
     | _ => none
    else none
   | _, _ => none
  | _ => none
 | .agg [.int k a, .int k1 b, .int k2 c], .agg [.int k' a', .int k1' b', .int k2' c'] =>
  if k1 = k ∧ k2 = k ∧ k' = k ∧ k1' = k ∧ k2' = k ∧ ints3 X.P t k = true then
   match op with
   | .eql => some (.bool (decide (a = a') && (decide (b = b') && decide (c = c'))))
   | .neq => some (.bool (!(decide (a = a') && (decide (b = b') && decide (c = c')))))
   | _ => none
  else none
 | _, _ => none
def unA (op : UnOp) (x : AV) : Option AV :=
 match op, x with
 | .neg, .int k n => some (.int k (k.wrap (0 - n)))
 | .not, .bool b => some (.bool (!b))
 | .xor, .int k n => some (.int k (k.wrap (BitVec.ofInt k.bits (if k.signed then -1 else k.max) ^^^ BitVec.ofInt k.bits n).toNat))
 | _, _ => none
def convertA (src dst : TypeId) (x : AV) : Option AV :=
 match X.P.underlying src, X.P.underlying dst, x with
 | some (.int _), some (.int k), .int _ n => some (.int k (k.wrap n))
 | _, _, _ => none
def snaps (f : AV → Option (AV × List Nat)) : List AV → Option (List AV × List Nat)
 | [] => some ([], [])
 | a :: as => nx (f a) fun (x, i) => mp (snaps f as) fun (xs, j) => (x :: xs, i ++ j)
def snap (h : Heap) : Nat → AV → Option (AV × List Nat)
 | 0, _ => none
 | d + 1, a => match a with
  | .sl b off len _ sz => match h b with
   | some (.cells cs _ _) =>
    if off + len * sz ≤ cs.length then
     mp (snaps (snap h d) ((cs.drop off).take (len * sz))) fun (xs, ids) => (.ro xs len false, b :: ids)
    else none
   | _ => none
  | .agg cs => mp (snaps (snap h d) cs) fun (xs, ids) => (.agg xs, ids)
  | .tuple cs => mp (snaps (snap h d) cs) fun (xs, ids) => (.tuple xs, ids)
  | .func fn first captured => nx (snaps (snap h d) first) fun (xs, i) => mp (snaps (snap h d) captured) fun (ys, j) => (.func fn xs ys, i ++ j)
  | .iface t v => mp (snap h d v) fun (x, ids) => (.iface t x, ids)
  | .ptr b off => match h b with
   | some (.cells cs _ _) => mp (snaps (snap h d) (cs.drop off)) fun (xs, ids) => (.rptr xs, b :: ids)
   | _ => none
  | .ext _ | .fresh .. => none
  | a => some (a, [])
def freshen (h : Heap) (d : Nat) : AV → Option (AV × List Nat × List Nat)
 | .sl b off len _ sz => match h b with
  | some (.cells cs _ false) =>
   if off + len * sz ≤ cs.length ∧ sz ≠ 0 then
    mp (snaps (snap h d) ((cs.drop off).take (len * sz))) fun (xs, ids) => (.fresh xs len sz, [b], ids)
   else none
  | _ => none
 | .ro [] 0 true => some (.fresh [] 0 0, [], [])
 | a => mp (snap h d a) fun (x, ids) => (x, [], ids)
def freshens (h : Heap) (d : Nat) : List AV → Option (List AV × List Nat × List Nat)
 | [] => some ([], [], [])
 | a :: as => nx (freshen h d a) fun (x, i, j) => mp (freshens h d as) fun (xs, i', j') => (x :: xs, i ++ i', j ++ j')
def nodupB : List Nat → Bool
 | [] => true
 | a :: as => !as.contains a && nodupB as
def resultTop (h : Heap) (d : Nat) (v : AV) : Option AV :=
 match v with
 | .tuple vs => nx (freshens h d vs) fun (xs, i, j) => if nodupB i && j.all (fun b => !i.contains b) then some (.tuple xs) else none
 | .agg vs => nx (freshens h d vs) fun (xs, i, j) => if nodupB i && j.all (fun b => !i.contains b) then some (.agg xs) else none
 | v => nx (freshen h d v) fun (x, i, j) => if j.all (fun b => !i.contains b) then some x else none
def depthA : Nat := 12
def emptyHeap : Heap := fun _ => none
def pureCall (call : CallFn) (f : FuncId) (args : List AV) : Option AV := match X.mode f with
 | .spec g => g args
 | _ => nx (call f args emptyHeap 0) fun (v, h, _) =>
  match X.mode f with
  | .ro => mp (snap h depthA v) fun (x, _) => x.weak
  | .top => mp (resultTop h depthA v) AV.weak
  | _ => none
def inst1 (id j : Nat) : AV → Option (AV × List (Nat × Option Obj) × Nat)
 | .fresh [] 0 0 => some (.ro [] 0 true, [], j)
 | .fresh cs len sz => if j < 8 then some (.sl (id + j) 0 len none sz, [(id + j, some (.cells cs true false))], j + 1) else none
 | a => some (a, [], j)
def insts (id j : Nat) : List AV → Option (List AV × List (Nat × Option Obj))
 | [] => some ([], [])
 | a :: as => nx (inst1 id j a) fun (x, w, j') => mp (insts id j' as) fun (xs, w') => (x :: xs, w ++ w')
def instantiate (id : Nat) : AV → Option (AV × List (Nat × Option Obj))
 | .tuple vs => mp (insts id 0 vs) fun (xs, w) => (.tuple xs, w)
 | .agg vs => mp (insts id 0 vs) fun (xs, w) => (.agg xs, w)
 | v => mp (inst1 id 0 v) fun (x, w, _) => (x, w)
def frozenObj : Option Obj → Option Obj
 | some (.cells cs g _) => some (.cells cs g true)
 | o => o
def frozenB : Option Obj → Bool
 | some (.cells _ _ true) => true
 | _ => false
def AV.scal : AV → Bool
 | .fresh cs _ _ => AV.noRef.go cs
 | a => a.noRef
def aCallFunc (call : CallFn) (h : Heap) (id next : Nat) (f : FuncId) (args : List AV) : Option Eff :=
 if (X.mode f).isInl = true then mp (call f args h next) fun (v, h', n') => .glob v h' n'
 else match snaps (snap h depthA) args with
  | none => mp (call f args h next) fun (v, h', n') => .glob v h' n'
  | some (xs, ids) =>
   nx (pureCall X call f (weaks xs)) fun r =>
    mp (instantiate id r) fun (v, w) =>
     .loc ⟨v, ids, (if r.scal then [] else (ids.filter fun b => !frozenB (h b)).map fun b => (b, frozenObj (h b))) ++ w⟩
def lenA (t : TypeId) (x : AV) : Option AV :=
 match X.P.underlying t, x with
 | some (.slice _), .ro _ n _ => some (.int .i64 n)
 | some (.slice _), .sl _ _ n _ _ => some (.int .i64 n)
 | some .string, .str s => some (.int .i64 s.size)
 | some (.array n _), _ => some (.int .i64 n)
 | some (.pointer a), _ => match X.P.underlying a with
  | some (.array n _) => some (.int .i64 n)
  | _ => none
 | some (.map _ _), .nilmap => some (.int .i64 0)
 | _, _ => none
def srcCells (h : Heap) (size : Nat) : AV → Option (List AV × Nat × List Nat)
 | .ro cs n _ => if n * size ≤ cs.length then some (cs.take (n * size), n, []) else none
 | .sl b off n _ sz => match h b with
  | some (.cells cs _ _) => if sz = size ∧ off + n * size ≤ cs.length then some ((cs.drop off).take (n * size), n, [b]) else none
  | _ => none
 | .str s => if size = 1 then some (s.data.toList.map fun b => .int .u8 b.toNat, s.size, []) else none
 | _ => none
def bytesA : List AV → Option (List UInt8)
 | [] => some []
 | .int .u8 n :: r => mp (bytesA r) (UInt8.ofNat n.toNat :: ·)
 | _ :: _ => none
def isBytesT (P : Program) (t : TypeId) : Bool :=
 match P.underlying t with
 | some (.slice e) => match P.underlying e with
  | some (.int .u8) => true
  | _ => false
 | _ => false
def AV.isStr : AV → Bool
 | .str _ => true
 | _ => false
def strE : Option (List AV × Nat × List Nat) → Option Eff
 | some (cs, _, rd) => mp (bytesA cs) fun l => .loc ⟨.str ⟨l.toArray⟩, rd, []⟩
 | none => none
def aConv (h : Heap) (src dst : TypeId) (a : AV) : Option Eff :=
 match X.P.underlying dst with
 | some .string => if isBytesT X.P src && !a.isStr then strE (srcCells h 1 a) else none
 | _ => nx (convertA X src dst a) valE
def aAppend (h : Heap) (id : Nat) (argTypes : Array TypeId) (s x : AV) : Option Eff :=
 match argTypes[0]?, argTypes[1]? with
 | some st, some xt =>
  match X.P.underlying st, X.P.underlying xt with
  | some (.slice elem), some xd =>
   if isIntD xd then none else
   nx (sbA X elem) fun (size, bytes) =>
    if size = 0 then none else
    nx (zeroA X elem) fun z =>
    if z.cells.length ≠ size ∨ z.tupleB then none else
    nx (srcCells h size x) fun (xs, n, rd) =>
     match s with
     | .ro cs len full =>
      if n = 0 then some (.loc ⟨s, rd, []⟩)
      else if full = true ∧ len * size ≤ cs.length ∧ (len + n) * (bytes + 1) ≤ 2 ^ 40 then
       some (.loc ⟨.sl id 0 (len + n) none size, rd, [(id, some (.cells (cs.take (len * size) ++ xs) true false))]⟩)
      else none
     | .sl b off len cap sz =>
      if sz ≠ size then none else
      match h b with
      | some (.cells cs g frz) =>
       match cap with
       | some c =>
        if n = 0 then some (.loc ⟨s, b :: rd, []⟩)
        else if len + n ≤ c then
         if frz = false ∧ off + (len + n) * size ≤ cs.length then
          some (.loc ⟨.sl b off (len + n) (some c) sz, b :: rd, [(b, some (.cells (splice cs (off + len * size) xs) g false))]⟩)
         else none
        else if off + len * size ≤ cs.length ∧ (len + n) * (bytes + 1) ≤ 2 ^ 40 then
         some (.loc ⟨.sl id 0 (len + n) none size, b :: rd, [(id, some (.cells ((cs.drop off).take (len * size) ++ xs) true false))]⟩)
        else none
       | none =>
        if n = 0 then some (.loc ⟨s, b :: rd, []⟩)
        else if frz = false ∧ g = true ∧ off + len * size = cs.length ∧ (len + n) * (bytes + 1) ≤ 2 ^ 40 then
         some (.loc ⟨.sl id 0 (len + n) none size, b :: rd, [(b, none), (id, some (.cells (cs.drop off ++ xs) true false))]⟩)
        else if frz = false ∧ g = true ∧ off + len * size < cs.length ∧ (len + n) * (bytes + 1) ≤ 2 ^ 40 then
         some (.loc ⟨.sl id 0 (len + n) none size, b :: rd, [(b, none), (id, some (.cells ((cs.drop off).take (len * size) ++ xs) true false))]⟩)
        else none
      | _ => none
     | _ => none
  | _, _ => none
 | _, _ => none
def aCopy (h : Heap) (argTypes : Array TypeId) (d x : AV) : Option Eff :=
 match argTypes[0]? with
 | some st =>
  match X.P.underlying st with
  | some (.slice elem) =>
   nx (sizeA X elem) fun size =>
    nx (srcCells h size x) fun (xs, n, rd) =>
     match d with
     | .sl b off len _ sz =>
      if sz ≠ size then none else
      match h b with
      | some (.cells cs g false) =>
       if off + len * size ≤ cs.length then
        some (.loc ⟨.int .i64 (min n len : Nat), b :: rd, [(b, some (.cells (splice cs off (xs.take (min n len * size))) g false))]⟩)
       else none
      | _ => none
     | .ro _ len _ => if len = 0 then some (.loc ⟨.int .i64 0, rd, []⟩) else none
     | _ => none
  | _ => none
 | none => none
def min2A : AV → AV → Option AV
 | .int k x, .int _ y => some (.int k (if y < x then y else x))
 | _, _ => none
def max2A : AV → AV → Option AV
 | .int k x, .int _ y => some (.int k (if y > x then y else x))
 | _, _ => none
def aBuiltin (h : Heap) (id : Nat) (b : Builtin) (argTypes : Array TypeId) (args : List AV) : Option Eff :=
 match b, args with
 | .len, [x] => nx (argTypes[0]?) fun t => nx (lenA X t x) valE
 | .append, [s, x] => aAppend X h id argTypes s x
 | .copy, [d, x] => aCopy X h argTypes d x
 | .min, [x, y] => nx (min2A x y) valE
 | .min, [x, y, z] => nx (min2A x y) fun m => nx (min2A m z) valE
 | .max, [x, y] => nx (max2A x y) valE
 | .max, [x, y, z] => nx (max2A x y) fun m => nx (max2A m z) valE
 | _, _ => none
def evalsA (env : Nat → AV) : List Operand → Option (List AV)
 | [] => some []
 | x :: r => nx (evalA X env x) fun a => mp (evalsA env r) (a :: ·)
def optA (env : Nat → AV) : Option Operand → Option (Option AV)
 | none => some none
 | some x => mp (evalA X env x) some
def evalOp (call : CallFn) (env : Nat → AV) (h : Heap) (id next : Nat) (o : Op) : Option Eff :=
 match o with
 | .move x | .assign x => nx (evalA X env x) valE
 | .pick c a b => nx (evalA X env c) fun c => nx (evalA X env a) fun a => nx (evalA X env b) fun b =>
  match c with
  | .bool t => valE (if t then a else b)
  | _ => none
 | .alloc t => aAlloc X id t
 | .box _ x => nx (evalA X env x) (aBox id)
 | .build t ps => nx (partsA X env ps.toList) (aBuild X t)
 | .buildSlice t len ps => nx (partsA X env ps.toList) (aBuildSlice X id t len)
 | .load t p => nx (evalA X env p) (aLoad X h t)
 | .store t p v => nx (evalA X env p) fun p => nx (evalA X env v) (aStore X h t p)
 | .nilCheck x => nx (evalA X env x) fun
  | .ptr b o => valE (.ptr b o)
  | .rptr cs => valE (.rptr cs)
  | .func (.func f) a b => valE (.func (.func f) a b)
  | _ => none
 | .binOp op t x y _ => nx (evalA X env x) fun a => nx (evalA X env y) fun b => nx (binA X op t a b) valE
 | .unOp op _ x => nx (evalA X env x) fun a => nx (unA op a) valE
 | .convert src dst x => nx (evalA X env x) (aConv X h src dst)
 | .makeFunc fn first captured => nx (evalsA X env first.toList) fun a => nx (evalsA X env captured.toList) fun b => valE (.func fn a b)
 | .makeSlice t l c => nx (evalA X env l) fun l => nx (evalA X env c) (aMakeSlice X id t l)
 | .slice t x lo hi mx => nx (evalA X env x) fun x => nx (optA X env lo) fun lo => nx (optA X env hi) fun hi => nx (optA X env mx) fun mx => if mx.isSome = true ∧ hi.isNone = true then none else slcX X h t x lo hi mx
 | .fieldAddr s x f => nx (evalA X env x) fun p => aFieldAddr X s p f
 | .field t x f => nx (evalA X env x) fun x => aField X t x f
 | .indexAddr t x i => nx (evalA X env x) fun x => nx (evalA X env i) (aIndexAddr X t x)
 | .index t x i => nx (evalA X env x) fun x => nx (evalA X env i) (aIndex X t x)
 | .extract t i => nx (evalA X env t) fun
  | .tuple vs => nx (vs[i]?) valE
  | _ => none
 | .call ⟨.builtin b, args, argTypes⟩ => nx (evalsA X env args.toList) (aBuiltin X h id b argTypes)
 | .call ⟨.value f, args, _⟩ => nx (evalA X env f) fun f => nx (evalsA X env args.toList) fun as =>
  match f with
  | .func (.func f) first captured => aCallFunc X call h id next f (first ++ as ++ captured)
  | _ => none
 | _ => none
def applyWr (h : Heap) : List (Nat × Option Obj) → Heap
 | [] => h
 | (b, o) :: r => applyWr (upd h b o) r
def putEnv (env : Nat → AV) (d : Option Tmp) (v : AV) : Nat → AV :=
 match d with
 | some t => upd env t v
 | none => env
def wantedA (ops : Array Oper) (env : Nat → AV) (o : Oper) : Option Bool :=
 match o.guard with
 | none => some true
 | some (j, want) =>
  match ops[j]? with
  | some g => match g.dst with
   | some t => match env t with
    | .bool b => some (b == want)
    | .tuple [] => some false
    | _ => none
   | none => some false
  | none => some false
def stepOp (call : CallFn) (ops : Array Oper) (base : Nat) (i : Nat) (o : Oper) (st : St) : Option (St × Eff) :=
 match wantedA ops st.env o with
 | none => none
 | some false => some ({ st with env := putEnv st.env o.dst (.tuple []) }, .loc ⟨.tuple [], [], []⟩)
 | some true => mp (evalOp X call st.env st.heap (base + 8 * i) st.next o.op) fun
  | .loc d => ({ st with env := putEnv st.env o.dst d.val, heap := applyWr st.heap d.wr }, .loc d)
  | .glob v h n => ({ env := putEnv st.env o.dst v, heap := h, next := n }, .glob v h n)
def runText (call : CallFn) (ops : Array Oper) (base : Nat) : List Oper → Nat → St → Option St
 | [], _, st => some st
 | o :: os, i, st => nx (stepOp X call ops base i o st) fun (st', _) => runText call ops base os (i + 1) st'
def runTextE (call : CallFn) (ops : Array Oper) (base : Nat) : List Oper → Nat → St → Option (St × List (Oper × Eff))
 | [], _, st => some (st, [])
 | o :: os, i, st => nx (stepOp X call ops base i o st) fun (st', e) => mp (runTextE call ops base os (i + 1) st') fun (st'', l) => (st'', (o, e) :: l)
def Delta.hits (d e : Delta) : Bool := d.wr.any fun w => e.rd.contains w.1 || e.wr.any (·.1 == w.1)
def Eff.disj : Eff → Eff → Bool
 | .loc d, .loc e => !d.hits e && !e.hits d
 | .glob .., .loc d => d.rd.isEmpty && d.wr.isEmpty
 | .loc d, .glob .. => d.rd.isEmpty && d.wr.isEmpty
 | .glob .., .glob .. => false
def edgeOn (o : Oper) (i : Nat) : Bool := o.after.any fun e => e.on == i && Region.binds .any e
def reachB (ops : Array Oper) : Nat → Nat → Nat → Bool
 | 0, _, _ => false
 | n + 1, j, i => match ops[j]? with
  | none => false
  | some o => o.after.any fun e => Region.binds .any e && (e.on == i || reachB ops n e.on i)
def okWith (ops : Array Oper) (i : Nat) (e : Eff) : Nat → List (Oper × Eff) → Bool
 | _, [] => true
 | j, (o, e') :: r => (e.disj e' || (edgeOn o i || reachB ops ops.size j i)) && okWith ops i e (j + 1) r
def okPairs (ops : Array Oper) : Nat → List (Oper × Eff) → Bool
 | _, [] => true
 | i, (_, e) :: r => okWith ops i e (i + 1) r && okPairs ops (i + 1) r
def runRegion (call : CallFn) (ops : Array Oper) (draw : Bool) (st : St) : Option St :=
 if draw then
  nx (runTextE X call ops st.next ops.toList 0 { st with next := st.next + 8 * ops.size }) fun (st', l) => if okPairs ops 0 l then some st' else none
 else runText X call ops st.next ops.toList 0 { st with next := st.next + 8 * ops.size }
inductive Ex where
 | normal
 | exit (id : Nat)
 | ret
 deriving DecidableEq
def runWith (call : CallFn) (lp : Code → St → Option (Ex × St)) : Code → St → Option (Ex × St)
 | .skip, st => some (.normal, st)
 | .label _, st => some (.normal, st)
 | .region _ ops draw, st => mp (runRegion X call ops draw st) fun st' => (.normal, st')
 | .seq a b, st => nx (runWith call lp a st) fun
  | (.normal, st') => runWith call lp b st'
  | (e, st') => some (e, st')
 | .cond c a b, st => nx (evalA X st.env c) fun
  | .bool t => if t then runWith call lp a st else runWith call lp b st
  | _ => none
 | .block id b, st => mp (runWith call lp b st) fun
  | (.exit i, st') => if i = id then (.normal, st') else (.exit i, st')
  | (e, st') => (e, st')
 | .scope b, st => runWith call lp b st
 | .loop b, st => lp b st
 | .exit id, st => some (.exit id, st)
 | .ret, st => some (.ret, st)
 | _, _ => none
def regionOk (nt : Nat) (ops : Array Oper) (draw : Bool) : Bool :=
 ops.all (fun o => o.dst.all (· < nt)) &&
 (!draw || (ops.zipIdx.all fun (o, j) => o.after.all (fun e => !Region.binds .any e || e.on < j) &&
  (ops.toList.take j).zipIdx.all fun (x, i) => edgeOn o i || Oper.apart ops x o))
def codeOk (nt : Nat) : Code → Bool
 | .region _ ops draw => regionOk nt ops draw
 | .seq a b => codeOk nt a && codeOk nt b
 | .cond _ a b => codeOk nt a && codeOk nt b
 | .block _ b => codeOk nt b
 | .scope b => codeOk nt b
 | .loop b => codeOk nt b
 | _ => true
def funcOk (fn : Func) : Bool :=
 (match fn.body with | some c => codeOk fn.ntmps c | none => false) && fn.name != "runtime.NumGoroutine" && fn.params.size + fn.nfree ≤ fn.ntmps
def argEnv (args : List AV) : Nat → AV := fun i => args.getD i (.tuple [])
def loadRes (st : St) : ResultVar → Option AV
 | .tmp t => some (st.env t)
 | .cell a t => nx (aLoad X st.heap t (st.env a)) fun | .loc d => some d.val | _ => none
def loadRess (st : St) : List ResultVar → Option (List AV)
 | [] => some []
 | r :: rs => nx (loadRes X st r) fun a => mp (loadRess st rs) (a :: ·)
def resultsA (fn : Func) (st : St) : Option AV :=
 mp (loadRess X st fn.results.toList) fun
  | [v] => v
  | vs => .tuple vs
def callWith (rn : Code → St → Option (Ex × St)) : CallFn := fun f args h next =>
 match X.P.funcs[f]? with
 | none => none
 | some fn => match fn.body with
  | none => none
  | some c =>
   if funcOk fn && args.length == fn.params.size + fn.nfree then
    nx (rn c ⟨argEnv args, h, next⟩) fun
     | (.normal, st) => mp (resultsA X fn st) fun v => (v, st.heap, st.next)
     | (.ret, st) => mp (resultsA X fn st) fun v => (v, st.heap, st.next)
     | _ => none
   else none
def run : Nat → Code → St → Option (Ex × St)
 | 0 => fun _ _ => none
 | n + 1 => runWith X (callWith X (run n)) fun b st => nx (run n b st) fun
  | (.normal, st') => run n (.loop b) st'
  | r => some r
end
section
open Classical in
noncomputable def lim {α : Type} (f : Nat → Option α) : Option α := if h : ∃ n, (f n).isSome then f (Classical.choose h) else none
variable (X : Ctx)
noncomputable def D (c : Code) (st : St) : Option (Ex × St) := lim fun n => run X n c st
noncomputable def callI : CallFn := callWith X (D X)
noncomputable def M (f : FuncId) (args : List AV) : Option AV := pureCall X (callI X) f args
noncomputable def lpI (b : Code) (st : St) : Option (Ex × St) := nx (D X b st) fun
  | (.normal, st') => D X (.loop b) st'
  | r => some r
structure Asked where
 f : FuncId
 args : List AV
 h : Heap
 next : Nat
 v : AV × Heap × Nat
def holdsC (call : CallFn) (S : List Asked) : Prop := ∀ q ∈ S, call q.f q.args q.h q.next = some q.v
def Fin1 {α : Type} (F : CallFn → Option α) : Prop := ∀ call r, F call = some r → ∃ S, holdsC call S ∧ ∀ call', holdsC call' S → F call' = some r
theorem Fin1.const {α : Type} (x : Option α) : Fin1 fun _ => x := fun _ _ h => ⟨[], by simp [holdsC], fun _ _ => h⟩
theorem Fin1.nx {α β : Type} {F : CallFn → Option α} {K : CallFn → α → Option β} (hF : Fin1 F) (hK : ∀ a, Fin1 fun c => K c a) : Fin1 fun c => nx (F c) (K c) := by
 intro call r h
 obtain ⟨a, ha, hk⟩ := nx_eq_some.1 h
 obtain ⟨S, h1, h2⟩ := hF call a ha
 obtain ⟨T, h3, h4⟩ := hK a call r hk
 refine ⟨S ++ T, fun q hq => (List.mem_append.1 hq).elim (h1 q) (h3 q), fun c' hc => ?_⟩
 exact nx_eq_some.2 ⟨a, h2 c' fun q hq => hc q (List.mem_append.2 (.inl hq)), h4 c' fun q hq => hc q (List.mem_append.2 (.inr hq))⟩
theorem Fin1.mp {α β : Type} {F : CallFn → Option α} (hF : Fin1 F) (k : α → β) : Fin1 fun c => mp (F c) k := by
 intro call r h
 obtain ⟨a, ha, hk⟩ := mp_eq_some.1 h
 obtain ⟨S, h1, h2⟩ := hF call a ha
 exact ⟨S, h1, fun c' hc => mp_eq_some.2 ⟨a, h2 c' hc, hk⟩⟩
theorem Fin1.call (f : FuncId) (args : List AV) (h : Heap) (n : Nat) : Fin1 fun c => c f args h n := fun call r hr =>
 ⟨[⟨f, args, h, n, r⟩], by simpa [holdsC] using hr, fun c' hc => hc ⟨f, args, h, n, r⟩ (by simp)⟩
theorem fin_pureCall (f : FuncId) (args : List AV) : Fin1 fun c => pureCall X c f args := by
 unfold pureCall
 split
 ·exact Fin1.const _
 ·exact (Fin1.call f args emptyHeap 0).nx fun _ => Fin1.const _
theorem fin_aCallFunc (h : Heap) (id next : Nat) (f : FuncId) (args : List AV) : Fin1 fun c => aCallFunc X c h id next f args := by
 unfold aCallFunc
 split
 ·exact (Fin1.call _ _ _ _).mp _
 ·split
  ·exact (Fin1.call _ _ _ _).mp _
  ·exact (fin_pureCall X f _).nx fun _ => Fin1.const _
theorem fin_evalOp (env : Nat → AV) (h : Heap) (id next : Nat) (o : Op) : Fin1 fun c => evalOp X c env h id next o := by
 unfold evalOp
 split <;> first
  | exact Fin1.const _
  | skip
 refine (Fin1.const _).nx fun a => (Fin1.const _).nx fun b => ?_
 split
 ·exact fin_aCallFunc X _ _ _ _ _
 ·exact Fin1.const _
theorem fin_stepOp (ops : Array Oper) (base i : Nat) (o : Oper) (st : St) : Fin1 fun c => stepOp X c ops base i o st := by
 unfold stepOp
 split
 ·exact Fin1.const _
 ·exact Fin1.const _
 ·exact (fin_evalOp X _ _ _ _ _).mp _
theorem fin_runText (ops : Array Oper) (base : Nat) (l : List Oper) : ∀ (i : Nat) (st : St), Fin1 fun c => runText X c ops base l i st := by
 induction l with
 | nil => exact fun i st => Fin1.const _
 | cons o os ih => exact fun i st => (fin_stepOp X ops base i o st).nx fun r => ih _ _
theorem fin_runTextE (ops : Array Oper) (base : Nat) (l : List Oper) : ∀ (i : Nat) (st : St), Fin1 fun c => runTextE X c ops base l i st := by
 induction l with
 | nil => exact fun i st => Fin1.const _
 | cons o os ih => exact fun i st => (fin_stepOp X ops base i o st).nx fun r => (ih _ _).mp _
theorem fin_runRegion (ops : Array Oper) (draw : Bool) (st : St) : Fin1 fun c => runRegion X c ops draw st := by
 unfold runRegion
 split
 ·exact (fin_runTextE X _ _ _ _ _).nx fun _ => Fin1.const _
 ·exact fin_runText X _ _ _ _ _
def holdsL (lp : Code → St → Option (Ex × St)) (T : List (Code × St × (Ex × St))) : Prop := ∀ t ∈ T, lp t.1 t.2.1 = some t.2.2
theorem holdsL_app {lp : Code → St → Option (Ex × St)} {S T : List (Code × St × (Ex × St))} : holdsL lp (S ++ T) ↔ holdsL lp S ∧ holdsL lp T := by
 simp only [holdsL, List.mem_append]; exact ⟨fun h => ⟨fun t ht => h t (.inl ht), fun t ht => h t (.inr ht)⟩, fun h t ht => ht.elim (h.1 t) (h.2 t)⟩
theorem holdsC_app {c : CallFn} {S T : List Asked} : holdsC c (S ++ T) ↔ holdsC c S ∧ holdsC c T := by
 simp only [holdsC, List.mem_append]; exact ⟨fun h => ⟨fun t ht => h t (.inl ht), fun t ht => h t (.inr ht)⟩, fun h t ht => ht.elim (h.1 t) (h.2 t)⟩
theorem fin_runWith (c : Code) : ∀ (st : St) (call : CallFn) (lp : Code → St → Option (Ex × St)) (r : Ex × St), runWith X call lp c st = some r →
  ∃ S T, holdsC call S ∧ holdsL lp T ∧ ∀ call' lp', holdsC call' S → holdsL lp' T → runWith X call' lp' c st = some r := by
 induction c with
 | region i ops draw =>
  intro st call lp r h
  obtain ⟨S, h1, h2⟩ := (fin_runRegion X ops draw st).mp (fun st' => ((.normal, st') : Ex × St)) call r h
  exact ⟨S, [], h1, by simp [holdsL], fun c' _ hc _ => h2 c' hc⟩
 | seq a b iha ihb =>
  intro st call lp r h
  obtain ⟨⟨e, st1⟩, ha, hk⟩ := nx_eq_some.1 h
  obtain ⟨S, T, h1, h2, h3⟩ := iha st call lp _ ha
  cases e with
  | normal =>
   obtain ⟨S', T', k1, k2, k3⟩ := ihb st1 call lp _ hk
   exact ⟨S ++ S', T ++ T', holdsC_app.2 ⟨h1, k1⟩, holdsL_app.2 ⟨h2, k2⟩, fun c' l' hc hl =>
    nx_eq_some.2 ⟨_, h3 c' l' (holdsC_app.1 hc).1 (holdsL_app.1 hl).1, k3 c' l' (holdsC_app.1 hc).2 (holdsL_app.1 hl).2⟩⟩
  | exit i => exact ⟨S, T, h1, h2, fun c' l' hc hl => nx_eq_some.2 ⟨_, h3 c' l' hc hl, hk⟩⟩
  | ret => exact ⟨S, T, h1, h2, fun c' l' hc hl => nx_eq_some.2 ⟨_, h3 c' l' hc hl, hk⟩⟩
 | cond c a b iha ihb =>
  intro st call lp r h
  obtain ⟨v, hv, hk⟩ := nx_eq_some.1 h
  cases v with
  | bool t =>
   cases t with
   | true =>
    obtain ⟨S, T, h1, h2, h3⟩ := iha st call lp r hk
    exact ⟨S, T, h1, h2, fun c' l' hc hl => nx_eq_some.2 ⟨_, hv, h3 c' l' hc hl⟩⟩
   | false =>
    obtain ⟨S, T, h1, h2, h3⟩ := ihb st call lp r hk
    exact ⟨S, T, h1, h2, fun c' l' hc hl => nx_eq_some.2 ⟨_, hv, h3 c' l' hc hl⟩⟩
  | _ => simp at hk
 | block i b ih =>
  intro st call lp r h
  obtain ⟨x, hx, hk⟩ := mp_eq_some.1 h
  obtain ⟨S, T, h1, h2, h3⟩ := ih st call lp _ hx
  exact ⟨S, T, h1, h2, fun c' l' hc hl => mp_eq_some.2 ⟨_, h3 c' l' hc hl, hk⟩⟩
 | scope b ih => exact fun st call lp r h => ih st call lp r h
 | loop b ih =>
  intro st call lp r h
  have h0 : lp b st = some r := h
  exact ⟨[], [(b, st, r)], by simp [holdsC], by simpa [holdsL] using h0, fun _ l' _ hl => hl (b, st, r) (by simp)⟩
 | skip => exact fun st call lp r h => ⟨[], [], by simp [holdsC], by simp [holdsL], fun _ _ _ _ => h⟩
 | label l => exact fun st call lp r h => ⟨[], [], by simp [holdsC], by simp [holdsL], fun _ _ _ _ => h⟩
 | exit i => exact fun st call lp r h => ⟨[], [], by simp [holdsC], by simp [holdsL], fun _ _ _ _ => h⟩
 | ret => exact fun st call lp r h => ⟨[], [], by simp [holdsC], by simp [holdsL], fun _ _ _ _ => h⟩
 | rangeFunc f ps a b _ _ => intro st call lp r h; simp [runWith] at h
 | goto l => intro st call lp r h; simp [runWith] at h
 | refuse w => intro st call lp r h; simp [runWith] at h
theorem callWith_mono {rn rn' : Code → St → Option (Ex × St)} (hr : ∀ c st r, rn c st = some r → rn' c st = some r) {f : FuncId} {args : List AV} {h : Heap} {n : Nat} {r : AV × Heap × Nat}
  (hc : callWith X rn f args h n = some r) : callWith X rn' f args h n = some r := by
 unfold callWith at hc ⊢
 split at hc
 ·simp at hc
 ·split at hc
  ·simp at hc
  ·split at hc
   ·rename_i hb _
    rw [if_pos (by assumption)]
    obtain ⟨x, hx, hk⟩ := nx_eq_some.1 hc
    exact nx_eq_some.2 ⟨x, hr _ _ _ hx, hk⟩
   ·simp at hc
theorem callWith_uses {rn : Code → St → Option (Ex × St)} {f : FuncId} {args : List AV} {h : Heap} {n : Nat} {r : AV × Heap × Nat}
  (hc : callWith X rn f args h n = some r) : ∃ c st x, rn c st = some x ∧ ∀ rn' : Code → St → Option (Ex × St), rn' c st = some x → callWith X rn' f args h n = some r := by
 unfold callWith at hc
 split at hc
 ·simp at hc
 ·rename_i fn hf
  split at hc
  ·simp at hc
  ·rename_i c hb
   split at hc
   ·rename_i hok
    obtain ⟨x, hx, hk⟩ := nx_eq_some.1 hc
    refine ⟨_, _, x, hx, fun rn' h' => ?_⟩
    unfold callWith
    simp only [hf, hb]
    rw [if_pos hok]
    exact nx_eq_some.2 ⟨x, h', hk⟩
   ·simp at hc
def lpN (rn : Code → St → Option (Ex × St)) (b : Code) (st : St) : Option (Ex × St) := nx (rn b st) fun
  | (.normal, st') => rn (.loop b) st'
  | r => some r
theorem run_succ (n : Nat) (c : Code) (st : St) : run X (n + 1) c st = runWith X (callWith X (run X n)) (lpN (run X n)) c st := nr rfl
theorem lpN_mono {rn rn' : Code → St → Option (Ex × St)} (hr : ∀ c st r, rn c st = some r → rn' c st = some r) {b : Code} {st : St} {r : Ex × St} (h : lpN rn b st = some r) : lpN rn' b st = some r := by
 obtain ⟨⟨e, s⟩, hx, hk⟩ := nx_eq_some.1 h
 refine nx_eq_some.2 ⟨_, hr _ _ _ hx, ?_⟩
 cases e with
 | normal => exact hr _ _ _ hk
 | exit i => exact hk
 | ret => exact hk
theorem runWith_mono {call call' : CallFn} {lp lp' : Code → St → Option (Ex × St)} (hc : ∀ f a h n r, call f a h n = some r → call' f a h n = some r) (hl : ∀ b st r, lp b st = some r → lp' b st = some r)
  {c : Code} {st : St} {r : Ex × St} (h : runWith X call lp c st = some r) : runWith X call' lp' c st = some r := by
 obtain ⟨S, T, h1, h2, h3⟩ := fin_runWith X c st call lp r h
 exact h3 call' lp' (fun q hq => hc _ _ _ _ _ (h1 q hq)) (fun t ht => hl _ _ _ (h2 t ht))
theorem run_mono1 : ∀ (n : Nat) (c : Code) (st : St) (r : Ex × St), run X n c st = some r → run X (n + 1) c st = some r := by
 intro n
 induction n with
 | zero => intro c st r h; simp [run] at h
 | succ n ih =>
  intro c st r h
  rw [run_succ] at h ⊢
  exact runWith_mono X (fun f a h' k r' hr => callWith_mono X ih hr) (fun b s r' hr => lpN_mono ih hr) h
theorem run_mono {n m : Nat} (hnm : n ≤ m) {c : Code} {st : St} {r : Ex × St} (h : run X n c st = some r) : run X m c st = some r := by
 induction hnm with
 | refl => exact h
 | step _ ih => exact run_mono1 X _ _ _ _ ih
theorem lim_some {α : Type} {f : Nat → Option α} {r : α} (hm : ∀ n m r, n ≤ m → f n = some r → f m = some r) : lim f = some r ↔ ∃ n, f n = some r := by
 unfold lim
 constructor
 ·intro h
  split at h
  ·exact ⟨_, h⟩
  ·simp at h
 ·rintro ⟨n, hn⟩
  have hex : ∃ n, (f n).isSome := ⟨n, by simp [hn]⟩
  rw [dif_pos hex]
  have hc := Classical.choose_spec hex
  obtain ⟨r', hr'⟩ := Option.isSome_iff_exists.1 hc
  rw [hr']
  have e1 := hm _ (max n (Classical.choose hex)) _ (by omega) hn
  have e2 := hm _ (max n (Classical.choose hex)) _ (by omega) hr'
  rw [e1] at e2
  exact e2.symm
theorem D_some {c : Code} {st : St} {r : Ex × St} : D X c st = some r ↔ ∃ n, run X n c st = some r := lim_some fun _ _ _ h hr => run_mono X h hr
theorem holdsC_fin {S : List Asked} (h : holdsC (callI X) S) : ∃ n, ∀ m, n ≤ m → holdsC (callWith X (run X m)) S := by
 induction S with
 | nil => exact ⟨0, fun _ _ => by simp [holdsC]⟩
 | cons q S ih =>
  obtain ⟨n, hn⟩ := ih fun x hx => h x (by simp [hx])
  obtain ⟨c, st, x, hx, hk⟩ := callWith_uses X (h q (by simp))
  obtain ⟨k, hk'⟩ := (D_some X).1 hx
  refine ⟨max n k, fun m hm => fun y hy => ?_⟩
  rcases List.mem_cons.1 hy with rfl | hy
  ·exact hk _ (run_mono X (by omega) hk')
  ·exact hn m (by omega) y hy
theorem holdsL_fin {T : List (Code × St × (Ex × St))} (h : holdsL (lpI X) T) : ∃ n, ∀ m, n ≤ m → holdsL (lpN (run X m)) T := by
 induction T with
 | nil => exact ⟨0, fun _ _ => by simp [holdsL]⟩
 | cons q T ih =>
  obtain ⟨n, hn⟩ := ih fun x hx => h x (by simp [hx])
  obtain ⟨⟨e, s⟩, hx, hk⟩ := nx_eq_some.1 (h q (by simp))
  obtain ⟨k, hk'⟩ := (D_some X).1 hx
  have : ∃ j, ∀ m, j ≤ m → lpN (run X m) q.1 q.2.1 = some q.2.2 := by
   cases e with
   | normal =>
    obtain ⟨j, hj⟩ := (D_some X).1 hk
    exact ⟨max k j, fun m hm => nx_eq_some.2 ⟨_, run_mono X (by omega) hk', run_mono X (by omega) hj⟩⟩
   | exit i => exact ⟨k, fun m hm => nx_eq_some.2 ⟨_, run_mono X (by omega) hk', hk⟩⟩
   | ret => exact ⟨k, fun m hm => nx_eq_some.2 ⟨_, run_mono X (by omega) hk', hk⟩⟩
  obtain ⟨j, hj⟩ := this
  refine ⟨max n j, fun m hm => fun y hy => ?_⟩
  rcases List.mem_cons.1 hy with rfl | hy
  ·exact hj m (by omega)
  ·exact hn m (by omega) y hy
theorem D_eq (c : Code) (st : St) : D X c st = runWith X (callI X) (lpI X) c st := by
 apply Option.ext
 intro r
 rw [D_some]
 constructor
 ·rintro ⟨n, hn⟩
  cases n with
  | zero => simp [run] at hn
  | succ n =>
   rw [run_succ] at hn
   refine runWith_mono X (fun f a h' k r' hr => callWith_mono X (fun c st r h => (D_some X).2 ⟨n, h⟩) hr) (fun b s r' hr => ?_) hn
   exact lpN_mono (rn' := D X) (fun c st r h => (D_some X).2 ⟨n, h⟩) hr
 ·intro h
  obtain ⟨S, T, h1, h2, h3⟩ := fin_runWith X c st _ _ r h
  obtain ⟨n, hn⟩ := holdsC_fin X h1
  obtain ⟨k, hk⟩ := holdsL_fin X h2
  exact ⟨max n k + 1, by rw [run_succ]; exact h3 _ _ (hn _ (by omega)) (hk _ (by omega))⟩
@[congr] theorem D_congr {c : Code} {st st' : St} (h : Unit → st = st') : D X c st = D X c st' := by rw [h ()]
@[congr] theorem M_congr {f : FuncId} {a a' : List AV} (h : Unit → a = a') : M X f a = M X f a' := by rw [h ()]
theorem D_skip (st : St) : D X .skip st = some (.normal, st) := by rw [D_eq]; rfl
theorem D_label (l : Nat) (st : St) : D X (.label l) st = some (.normal, st) := by rw [D_eq]; rfl
theorem D_ret (st : St) : D X .ret st = some (.ret, st) := by rw [D_eq]; rfl
theorem D_exit (i : Nat) (st : St) : D X (.exit i) st = some (.exit i, st) := by rw [D_eq]; rfl
def thenD (x : Option (Ex × St)) (k : St → Option (Ex × St)) : Option (Ex × St) := match x with
 | some (.normal, st) => k st
 | r => r
theorem thenD_normal (st : St) (k : St → Option (Ex × St)) : thenD (some (.normal, st)) k = k st := nr rfl
theorem thenD_ret (st : St) (k : St → Option (Ex × St)) : thenD (some (.ret, st)) k = some (.ret, st) := nr rfl
theorem thenD_exit (i : Nat) (st : St) (k : St → Option (Ex × St)) : thenD (some (.exit i, st)) k = some (.exit i, st) := nr rfl
theorem thenD_none (k : St → Option (Ex × St)) : thenD none k = none := nr rfl
theorem thenD_ite (c : Prop) [Decidable c] (x y : Option (Ex × St)) (k : St → Option (Ex × St)) : thenD (if c then x else y) k = if c then thenD x k else thenD y k := by split <;> rfl
@[congr] theorem thenD_congr {x y : Option (Ex × St)} (k : St → Option (Ex × St)) (h : Unit → x = y) : thenD x k = thenD y k := by rw [h ()]
theorem D_seq (a b : Code) (st : St) : D X (.seq a b) st = thenD (D X a st) (D X b) := by
 rw [D_eq, runWith, ← D_eq]
 cases D X a st with
 | none => rfl
 | some r => obtain ⟨e, s⟩ := r; cases e <;> simp [nx, thenD, ← D_eq]
def blockD (i : Nat) (x : Option (Ex × St)) : Option (Ex × St) := match x with
 | some (.exit j, st) => if j = i then some (.normal, st) else some (.exit j, st)
 | r => r
theorem blockD_normal (i : Nat) (st : St) : blockD i (some (.normal, st)) = some (.normal, st) := nr rfl
theorem blockD_ret (i : Nat) (st : St) : blockD i (some (.ret, st)) = some (.ret, st) := nr rfl
theorem blockD_exit (i j : Nat) (st : St) : blockD i (some (.exit j, st)) = if j = i then some (.normal, st) else some (.exit j, st) := nr rfl
theorem blockD_none (i : Nat) : blockD i none = none := nr rfl
theorem blockD_ite (i : Nat) (c : Prop) [Decidable c] (x y : Option (Ex × St)) : blockD i (if c then x else y) = if c then blockD i x else blockD i y := by split <;> rfl
theorem D_block (i : Nat) (b : Code) (st : St) : D X (.block i b) st = blockD i (D X b st) := by
 rw [D_eq, runWith, ← D_eq]
 cases D X b st with
 | none => rfl
 | some r => obtain ⟨e, s⟩ := r; cases e <;> simp [mp, blockD]; split <;> rfl
theorem D_scope (b : Code) (st : St) : D X (.scope b) st = D X b st := by rw [D_eq, runWith, ← D_eq]
def condD (x : Option AV) (a b : Option (Ex × St)) : Option (Ex × St) := match x with
 | some (.bool t) => if t then a else b
 | _ => none
theorem condD_bool (t : Bool) (a b : Option (Ex × St)) : condD (some (.bool t)) a b = if t = true then a else b := nr rfl
@[congr] theorem condD_congr {x y : Option AV} (a b : Option (Ex × St)) (h : Unit → x = y) : condD x a b = condD y a b := by rw [h ()]
theorem D_cond (c : Operand) (a b : Code) (st : St) : D X (.cond c a b) st = condD (evalA X st.env c) (D X a st) (D X b st) := by
 rw [D_eq, runWith, ← D_eq, ← D_eq]
 cases evalA X st.env c with
 | none => rfl
 | some r => cases r <;> rfl
def normD (st : St) : Ex × St := (.normal, st)
theorem D_region (i : Nat) (ops : Array Oper) (draw : Bool) (st : St) : D X (.region i ops draw) st = mp (runRegion X (callI X) ops draw st) (fun st' => (.normal, st')) := by
 rw [D_eq, runWith]
@[congr] theorem runText_congr {call : CallFn} {ops : Array Oper} {base : Nat} {l : List Oper} {i : Nat} {st st' : St} (h : Unit → st = st') : runText X call ops base l i st = runText X call ops base l i st' := by rw [h ()]
@[congr] theorem runTextE_congr {call : CallFn} {ops : Array Oper} {base : Nat} {l : List Oper} {i : Nat} {st st' : St} (h : Unit → st = st') : runTextE X call ops base l i st = runTextE X call ops base l i st' := by rw [h ()]
@[congr] theorem runRegion_congr {call : CallFn} {ops : Array Oper} {d : Bool} {st st' : St} (h : Unit → st = st') : runRegion X call ops d st = runRegion X call ops d st' := by rw [h ()]
theorem runRegion_text (call : CallFn) (ops : Array Oper) (st : St) : runRegion X call ops false st = runText X call ops st.next ops.toList 0 { st with next := st.next + 8 * ops.toList.length } := nr rfl
theorem runRegion_draw (call : CallFn) (ops : Array Oper) (st : St) : runRegion X call ops true st =
  nx (runTextE X call ops st.next ops.toList 0 { st with next := st.next + 8 * ops.toList.length }) fun x => if okPairs ops 0 x.2 = true then some x.1 else none := rfl
def after (o : Oper) (st : St) : Eff → St
 | .loc d => ⟨putEnv st.env o.dst d.val, applyWr st.heap d.wr, st.next⟩
 | .glob v h n => ⟨putEnv st.env o.dst v, h, n⟩
theorem after_loc (o : Oper) (st : St) (d : Delta) : after o st (.loc d) = ⟨putEnv st.env o.dst d.val, applyWr st.heap d.wr, st.next⟩ := nr rfl
theorem after_glob (o : Oper) (st : St) (v : AV) (h : Heap) (n : Nat) : after o st (.glob v h n) = ⟨putEnv st.env o.dst v, h, n⟩ := nr rfl
@[congr] theorem after_congr {o : Oper} {st st' : St} {e e' : Eff} (h : Unit → st = st') (h' : Unit → e = e') : after o st e = after o st' e' := by rw [h (), h' ()]
def guardedOp (w : Option Bool) (x : Option Eff) : Option Eff := match w with
 | some true => x
 | some false => some (.loc ⟨.tuple [], [], []⟩)
 | none => none
theorem guardedOp_true (x : Option Eff) : guardedOp (some true) x = x := nr rfl
theorem guardedOp_false (x : Option Eff) : guardedOp (some false) x = some (.loc ⟨.tuple [], [], []⟩) := nr rfl
@[congr] theorem guardedOp_congr {w w' : Option Bool} (x : Option Eff) (h : Unit → w = w') : guardedOp w x = guardedOp w' x := by rw [h ()]
theorem guardedOp_some (b : Bool) (x : Option Eff) : guardedOp (some b) x = if b = true then x else some (.loc ⟨.tuple [], [], []⟩) := by cases b <;> rfl
theorem stepOp_eq (call : CallFn) (ops : Array Oper) (base i : Nat) (o : Oper) (st : St) :
  stepOp X call ops base i o st = mp (guardedOp (wantedA ops st.env o) (evalOp X call st.env st.heap (base + 8 * i) st.next o.op)) fun e => (after o st e, e) := by
 unfold stepOp
 cases wantedA ops st.env o with
 | none => rfl
 | some b =>
  cases b with
  | false => simp [guardedOp, mp, after, applyWr]
  | true =>
   simp only [guardedOp]
   cases evalOp X call st.env st.heap (base + 8 * i) st.next o.op with
   | none => rfl
   | some e => cases e <;> rfl
theorem runText_nil (call : CallFn) (ops : Array Oper) (base i : Nat) (st : St) : runText X call ops base [] i st = some st := nr rfl
theorem runText_cons (call : CallFn) (ops : Array Oper) (base : Nat) (o : Oper) (os : List Oper) (i : Nat) (st : St) :
  runText X call ops base (o :: os) i st = nx (guardedOp (wantedA ops st.env o) (evalOp X call st.env st.heap (base + 8 * i) st.next o.op)) fun e => runText X call ops base os (i + 1) (after o st e) := by
 rw [runText, stepOp_eq]
 cases guardedOp (wantedA ops st.env o) (evalOp X call st.env st.heap (base + 8 * i) st.next o.op) <;> rfl
theorem runTextE_nil (call : CallFn) (ops : Array Oper) (base i : Nat) (st : St) : runTextE X call ops base [] i st = some (st, []) := nr rfl
theorem runTextE_cons (call : CallFn) (ops : Array Oper) (base : Nat) (o : Oper) (os : List Oper) (i : Nat) (st : St) :
  runTextE X call ops base (o :: os) i st = nx (guardedOp (wantedA ops st.env o) (evalOp X call st.env st.heap (base + 8 * i) st.next o.op)) fun e => mp (runTextE X call ops base os (i + 1) (after o st e)) fun x => (x.1, (o, e) :: x.2) := by
 rw [runTextE, stepOp_eq]
 cases guardedOp (wantedA ops st.env o) (evalOp X call st.env st.heap (base + 8 * i) st.next o.op) <;> rfl
theorem wantedA_none (ops : Array Oper) (env : Nat → AV) (d : Option Tmp) (op : Op) (ty : TypeId) (pos : String) (af : Array Edge) : wantedA ops env ⟨d, op, ty, pos, af, none⟩ = some true := nr rfl
theorem M_def {f : FuncId} (hns : (X.mode f).isSpec = false) (args : List AV) : M X f args = nx (callI X f args emptyHeap 0) fun x =>
  match X.mode f with
  | .ro => mp (snap x.2.1 depthA x.1) fun y => y.1.weak
  | .top => mp (resultTop x.2.1 depthA x.1) AV.weak
  | _ => none := by
 unfold M pureCall
 cases hm : X.mode f with
 | spec g => rw [hm] at hns; cases hns
 | _ => rfl
theorem M_spec {f : FuncId} {g : List AV → Option AV} (h : X.mode f = .spec g) (args : List AV) : M X f args = g args := by
 unfold M pureCall; rw [h]
theorem callI_def {f : FuncId} {fn : Func} {c : Code} (hf : X.P.funcs[f]? = some fn) (hb : fn.body = some c) (hok : funcOk fn = true)
  (args : List AV) (hl : (args.length == fn.params.size + fn.nfree) = true) (h : Heap) (next : Nat) :
  callI X f args h next = nx (D X c ⟨argEnv args, h, next⟩) fun x => match x.1 with
   | .exit _ => none
   | _ => mp (resultsA X fn x.2) fun v => (v, x.2.heap, x.2.next) := by
 unfold callI callWith
 rw [hf]
 simp only [hb, hok, hl, Bool.true_and, if_true]
 cases D X c ⟨argEnv args, h, next⟩ with
 | none => rfl
 | some r => obtain ⟨e, s⟩ := r; cases e <;> rfl
end
end Go.Proofs.YtenhjccadhlgoaaGreat.Abs
