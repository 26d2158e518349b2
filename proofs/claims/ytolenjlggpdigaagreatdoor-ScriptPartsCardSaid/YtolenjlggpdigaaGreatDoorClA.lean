/- A clean evaluator of the model's code (values with blocks of their own, a heap, operations, execution by fuel), and the relation between its state and the model's. No statement about a program yet; no conditions. -/
import GoSem.Step
import Derived.CallsIn
import Derived.OrdersIn
import Derived.RangeFuncLeaves
import Derived.RangeFuncRecord
import Derived.Below
set_option linter.all false
namespace Go.Cl
noncomputable section

inductive Cap where
  | exact (n : Nat)
  | opn (sz : Nat)
  deriving Inhabited

inductive CV where
  | bool (b : Bool)
  | int (k : IntKind) (n : Int)
  | str (s : List Nat)
  | nilp
  | ptr (id off : Nat)
  | nils
  | sl (id off len : Nat) (cap : Cap)
  | slend (id off0 l sz : Nat)
  | sl0 (id off0 l sz : Nat)
  | nilm
  | map (id : Nat)
  | fn (f : Fn) (first cap : List CV)
  | nilf
  | ifc (t : TypeId) (v : CV)
  | nili
  | agg (cs : List CV)
  | tup (vs : List CV)
  deriving Inhabited

mutual
def beqC : CV → CV → Bool
  | .bool a, .bool b => a == b
  | .int k a, .int k' b => k == k' && a == b
  | .str a, .str b => a == b
  | .nilp, .nilp => true
  | .ptr a b, .ptr c d => Nat.beq a c && Nat.beq b d
  | .nils, .nils => true
  | .sl a b c (.exact d), .sl a' b' c' (.exact d') => Nat.beq a a' && Nat.beq b b' && Nat.beq c c' && Nat.beq d d'
  | .sl a b c (.opn d), .sl a' b' c' (.opn d') => Nat.beq a a' && Nat.beq b b' && Nat.beq c c' && Nat.beq d d'
  | .slend a b c d, .slend a' b' c' d' => Nat.beq a a' && Nat.beq b b' && Nat.beq c c' && Nat.beq d d'
  | .sl0 a b c d, .sl0 a' b' c' d' => Nat.beq a a' && Nat.beq b b' && Nat.beq c c' && Nat.beq d d'
  | .nilm, .nilm => true
  | .map a, .map b => Nat.beq a b
  | .fn (.func f) a b, .fn (.func f') a' b' => Nat.beq f f' && beqCL a a' && beqCL b b'
  | .nilf, .nilf => true
  | .ifc t v, .ifc t' v' => Nat.beq t t' && beqC v v'
  | .nili, .nili => true
  | .agg a, .agg b => beqCL a b
  | .tup a, .tup b => beqCL a b
  | _, _ => false
def beqCL : List CV → List CV → Bool
  | [], [] => true
  | a :: as, b :: bs => beqC a b && beqCL as bs
  | _, _ => false
end

inductive T (α : Type) where
  | nil
  | node (v : Option α) (l r : T α)
  deriving Inhabited

noncomputable def T.get {α : Type} (t : T α) : Nat → Option α :=
  @T.rec α (fun _ => Nat → Option α) (fun _ => none)
    (fun v _ _ gl gr n => @Nat.rec (fun _ => Option α) v (fun m _ => @Bool.rec (fun _ => Option α) (gr (Nat.div m (nat_lit 2))) (gl (Nat.div m (nat_lit 2))) (Nat.beq (Nat.mod m (nat_lit 2)) (nat_lit 0))) n) t

def T.l {α : Type} : T α → T α | .nil => .nil | .node _ l _ => l
def T.r {α : Type} : T α → T α | .nil => .nil | .node _ _ r => r
def T.v {α : Type} : T α → Option α | .nil => none | .node v _ _ => v

noncomputable def T.putF {α : Type} (x : Option α) (f : Nat) : T α → Nat → T α :=
  @Nat.rec (fun _ => T α → Nat → T α)
    (fun t _ => @T.rec α (fun _ => T α) (.node x .nil .nil) (fun _ l r _ _ => .node x l r) t)
    (fun _ ih t n => @T.rec α (fun _ => T α)
      (@Nat.rec (fun _ => T α) (.node x .nil .nil) (fun m _ => @Bool.rec (fun _ => T α) (.node none .nil (ih .nil (Nat.div m (nat_lit 2)))) (.node none (ih .nil (Nat.div m (nat_lit 2))) .nil) (Nat.beq (Nat.mod m (nat_lit 2)) (nat_lit 0))) n)
      (fun v l r _ _ => @Nat.rec (fun _ => T α) (.node x l r) (fun m _ => @Bool.rec (fun _ => T α) (.node v l (ih r (Nat.div m (nat_lit 2)))) (.node v (ih l (Nat.div m (nat_lit 2))) r) (Nat.beq (Nat.mod m (nat_lit 2)) (nat_lit 0))) n) t) f
theorem T.putF_zero {α : Type} (x : Option α) (t : T α) (n : Nat) : T.putF x 0 t n = .node x t.l t.r := by cases t <;> rfl
theorem T.putF_z {α : Type} (x : Option α) (f : Nat) (t : T α) : T.putF x (f + 1) t 0 = .node x t.l t.r := by cases t <;> rfl
theorem T.putF_succ {α : Type} (x : Option α) (f : Nat) (t : T α) (m : Nat) : T.putF x (f + 1) t (m + 1) = cond (Nat.beq (m % 2) 0) (.node t.v (T.putF x f t.l (m / 2)) t.r) (.node t.v t.l (T.putF x f t.r (m / 2))) := by
  cases t with
  | nil =>
    show @Bool.rec (fun _ => T α) (.node none .nil (T.putF x f .nil (m / 2))) (.node none (T.putF x f .nil (m / 2)) .nil) (Nat.beq (m % 2) 0) = _
    cases Nat.beq (m % 2) 0 <;> rfl
  | node v l r =>
    show @Bool.rec (fun _ => T α) (.node v l (T.putF x f r (m / 2))) (.node v (T.putF x f l (m / 2)) r) (Nat.beq (m % 2) 0) = _
    cases Nat.beq (m % 2) 0 <;> rfl


def T.set {α : Type} (t : T α) (n : Nat) (x : α) : T α := T.putF (some x) n t n
def T.del {α : Type} (t : T α) (n : Nat) : T α := T.putF none n t n

def nth {α : Type} : List α → Nat → Option α
  | [], _ => none
  | a :: _, 0 => some a
  | _ :: l, m + 1 => nth l m

structure Blk where
  n : Nat
  d : List CV
  t : T CV
  ro : Bool := false
  /-- the type of its variables, where that is kept; true: it is one variable, all of it -/
  ty : Option (TypeId × Bool) := none
  deriving Inhabited

structure CLoop where
  state : LoopState
  pending : Option Code
  env : T CV
  ntmps : Nat
  params : List Tmp
  assign : Code
  body : Code
  deriving Inhabited

inductive CObj where
  | cells (b : Blk)
  | map (es : List (CV × CV × Nat)) (clock : Nat)
  | strIter (s : List Nat) (pos : Nat)
  | mapIter (m : Option Nat) (since : Nat) (seen : List Nat) (stepped : Nat)
  | loop (l : CLoop)
  deriving Inhabited

structure H where
  t : T CObj
  nx : Nat
  low : Nat
  gn : Nat
  deriving Inhabited

def Blk.get (b : Blk) (i : Nat) : Option CV :=
  cond (Nat.blt i b.n) (match b.t.get i with
    | some v => some v
    | none => nth b.d (i % b.d.length)) none

def Blk.loadN (b : Blk) : Nat → Nat → Option (List CV)
  | _, 0 => some []
  | off, n + 1 => (b.get off).bind fun v => (b.loadN (off + 1) n).bind fun vs => some (v :: vs)

def CV.one : CV → Bool
  | .agg _ | .tup _ => false
  | _ => true

def Blk.storeN (b : Blk) (off : Nat) : List CV → Option Blk
  | [] => some b
  | v :: vs => cond (v.one && Nat.blt off b.n) (Blk.storeN { b with t := b.t.set off v } (off + 1) vs) none

def mergeL (t : T CV) : List CV → Nat → List CV
  | [], _ => []
  | c :: l, i => (match t.get i with | some v => v | none => c) :: mergeL t l (i + 1)
def mergeT (t : T CV) (l : List CV) (i : Nat) : List CV := match t with
  | .nil => l
  | t => mergeL t l i
/-- a list so many times -/
def repl (z : List CV) : Nat → List CV
  | 0 => []
  | n + 1 => z ++ repl z n
/-- the cells of a great block, at one go -/
def Blk.loadF (b : Blk) (off n : Nat) : Option (List CV) :=
  cond (Nat.blt 24 n && Nat.beq (b.d.length * (b.n / b.d.length)) b.n && Nat.ble (off + n) b.n) (some (mergeT b.t (((repl b.d (b.n / b.d.length)).drop off).take n) off)) (b.loadN off n)
/-- cells laid into a block; many of them at one go -/
def Blk.storeA (b : Blk) (off : Nat) (vs : List CV) : Option Blk :=
  cond (Nat.blt 24 vs.length && Nat.ble (off + vs.length) b.n)
    (match b.loadF 0 b.n with
     | some l => cond (vs.all CV.one) (some { b with d := l.take off ++ (vs ++ l.drop (off + vs.length)), t := .nil }) none
     | none => b.storeN off vs) (b.storeN off vs)

def H.blk (h : H) (id : Nat) : Option Blk :=
  match h.t.get id with
  | some (.cells b) => some b
  | _ => none

def H.put (h : H) (id : Nat) (o : CObj) : H := { h with t := h.t.set id o, low := min h.low id }
def H.kill (h : H) (id : Nat) : H := { h with t := h.t.del id, low := min h.low id }
def H.alloc (h : H) (o : CObj) : H := { h with t := h.t.set h.nx o, nx := h.nx + 1 }

def CV.cells : CV → List CV
  | .agg cs => cs
  | v => [v]

def setAll : List CV → Nat → T CV → T CV
  | [], _, t => t
  | c :: l, o, t => setAll l (o + 1) (t.set o c)

/-- a block of so many cells, laid one by one -/
def fillB (n : Nat) (cs : List CV) : Blk := cond (Nat.blt 24 n && Nat.beq cs.length n) { n := n, d := cs, t := .nil } { n := n, d := [], t := setAll cs 0 .nil }
/-- a block of given cells; where all are one, that one alone is kept -/
def newBlk (cs : List CV) : Blk :=
  match cs with
  | [] => fillB 0 []
  | c :: l => cond (l.all (beqC c)) { n := l.length + 1, d := [c], t := .nil } (fillB (l.length + 1) (c :: l))
/-- the cells of a fresh or empty builder of texts, or of what bears one alone -/
def isNp : CV → Bool
  | .nilp => true
  | _ => false
def isNs : CV → Bool
  | .nils => true
  | _ => false
def bldB (cs : List CV) : Bool := match cs with
  | [] => false
  | a :: l => isNp a && (match l with | [] => false | b :: r => isNs b && (match r with | [] => true | _ :: _ => false))
/-- a new variable's block -/
def allocB (e : TypeId) (cs : List CV) : Blk := cond (bldB cs) { newBlk cs with ty := some (e, true) } (newBlk cs)
def und : CV := .tup []

def ofV1 : Value → Option CV
  | .bool b => some (.bool b)
  | .int k n => some (.int k n)
  | .string s => some (.str (s.data.toList.map UInt8.toNat))
  | .pointer none => some .nilp
  | .slice none 0 0 => some .nils
  | .map none => some .nilm
  | .nilFunc => some .nilf
  | .nilIface => some .nili
  | _ => none

def ofVs : List Value → Option (List CV)
  | [] => some []
  | v :: l => (ofV1 v).bind fun c => (ofVs l).bind fun cs => some (c :: cs)

def ofV : Value → Option CV
  | .agg cs => (ofVs cs.toList).map .agg
  | .tuple vs => (ofVs vs.toList).map .tup
  | .func (.func f) a b => cond (a.toList.isEmpty && b.toList.isEmpty) (some (.fn (.func f) [] [])) none
  | v => ofV1 v

def ev (h : H) (env : T CV) : Operand → Option CV
  | .tmp t => some (match env.get t with | some v => v | none => und)
  | .const v => ofV v
  | .global g => cond (Nat.blt g h.gn) (some (.ptr g 0)) none
  | .func f => some (.fn (.func f) [] [])

def evs (h : H) (env : T CV) : List Operand → Option (List CV)
  | [] => some []
  | o :: l => (ev h env o).bind fun c => (evs h env l).bind fun cs => some (c :: cs)

section ops
variable (P : Program)

def isAggT (t : TypeId) : Option Bool := (P.underlying t).map fun | .struct _ => true | .array _ _ => true | _ => false
def szOf (t : TypeId) : Option Nat := (P.info? t).map (·.size)
def bytesT (t : TypeId) : Option Nat := (P.info? t).map (·.bytes)
def zeroT (t : TypeId) : Option CV := (P.info? t).bind fun i => i.zero.bind ofV

def loadT (h : H) (t : TypeId) (id off : Nat) : Option CV :=
  (isAggT P t).bind fun g => (h.blk id).bind fun b =>
    match g with
    | true => (szOf P t).bind fun n => (b.loadN off n).map .agg
    | false => b.get off

def storeT (h : H) (t : TypeId) (id off : Nat) (v : CV) : Option H :=
  (szOf P t).bind fun n => (h.blk id).bind fun b =>
    cond (Nat.beq v.cells.length n && !b.ro) ((b.storeA off v.cells).map fun b' => h.put id (.cells b')) none

def partT (t : TypeId) (cs : List CV) (off : Nat) : Option CV :=
  (isAggT P t).bind fun g =>
    match g with
    | true => (szOf P t).bind fun n => some (.agg ((cs.drop off).take n))
    | false => nth cs off

inductive Out where
  | val (v : CV)
  | upd (v : CV) (h : H)
  | enter (f : FuncId) (args : List CV)
  | round (l : Nat) (args : List CV)

def capK (h : H) (id off : Nat) (sz : Nat) : Option Nat := (h.blk id).bind fun b => some ((b.n - off) / sz)

/-- place of element i -/
def toN (i : Int) : Option Nat := match i with | .ofNat n => some n | _ => none

def bnd (x : Option CV) (dflt : Nat) : Option Nat :=
  match x with
  | none => some dflt
  | some (.int _ i) => toN i
  | _ => none

def sliceExact (n size id off : Nat) (lo hi mx : Option CV) (len : Nat) : Option CV :=
  (bnd mx n).bind fun m => (bnd hi len).bind fun h => (bnd lo 0).bind fun l =>
    cond (Nat.ble m n && Nat.ble h m && Nat.ble l h && (mx.isNone || hi.isSome))
      (some (.sl id (cond (Nat.beq m l) off (off + l * size)) (h - l) (.exact (m - l)))) none

def sliceT (h : H) (t : TypeId) (x : CV) (lo hi mx : Option CV) : Option CV :=
  (P.underlying t).bind fun d =>
    match d, x with
    | .array n elem, .ptr id off => (szOf P elem).bind fun size => sliceExact n size id off lo hi mx n
    | .pointer arr, .ptr id off => (P.underlying arr).bind fun d' =>
      match d' with
      | .array n elem => (szOf P elem).bind fun size => sliceExact n size id off lo hi mx n
      | _ => none
    | .string, .str s => match mx with
      | some _ => none
      | none => (bnd hi s.length).bind fun hh => (bnd lo 0).bind fun l =>
        cond (Nat.ble hh s.length && Nat.ble l hh) (some (.str ((s.drop l).take (hh - l)))) none
    | .slice elem, .sl id off len (.exact n) => (szOf P elem).bind fun size => sliceExact n size id off lo hi mx len
    | .slice elem, .sl id off len (.opn sz) => (szOf P elem).bind fun size => cond (Nat.beq size sz && Nat.blt 0 sz)
      ((capK h id off sz).bind fun K =>
        match mx with
        | some _ => (bnd mx 0).bind fun m => (bnd hi 0).bind fun hh => (bnd lo 0).bind fun l =>
          cond (hi.isSome && Nat.ble m K && Nat.ble hh m && Nat.ble l hh)
            (some (.sl id (cond (Nat.beq m l) off (off + l * size)) (hh - l) (.exact (m - l)))) none
        | none => (bnd hi len).bind fun hh => (bnd lo 0).bind fun l =>
          cond (Nat.ble hh K && Nat.ble l hh)
            (some (cond (Nat.blt l K || Nat.beq l 0) (.sl id (off + l * size) (hh - l) (.opn sz)) (.slend id off l sz))) none) none
    | .slice elem, .slend id off0 l sz => (szOf P elem).bind fun _ => (bnd hi 0).bind fun hh => (bnd lo 0).bind fun ll =>
        cond (Nat.beq hh 0 && Nat.beq ll 0) (match mx with
          | none => some (.slend id off0 l sz)
          | some _ => (bnd mx 0).bind fun m => cond (Nat.beq m 0 && hi.isSome && Nat.blt 0 sz) (some (.sl0 id off0 l sz)) none) none
    | .slice elem, .sl0 id off0 l sz => (szOf P elem).bind fun _ => (bnd hi 0).bind fun hh => (bnd lo 0).bind fun ll => (bnd mx 0).bind fun m =>
        cond (Nat.beq hh 0 && Nat.beq ll 0 && Nat.beq m 0 && (mx.isNone || hi.isSome)) (some (.sl0 id off0 l sz)) none
    | .slice elem, .nils => (szOf P elem).bind fun _ => (bnd hi 0).bind fun hh => (bnd lo 0).bind fun ll => (bnd mx 0).bind fun m =>
        cond (Nat.beq hh 0 && Nat.beq ll 0 && Nat.beq m 0 && (mx.isNone || hi.isSome)) (some .nils) none
    | _, _ => none

def indexAddrT (t : TypeId) (x i : CV) : Option CV :=
  (P.underlying t).bind fun d =>
    match d, x, i with
    | .array n elem, .ptr id off, .int _ (.ofNat k) => (szOf P elem).bind fun size => cond (Nat.blt k n) (some (.ptr id (off + k * size))) none
    | .slice elem, .sl id off len _, .int _ (.ofNat k) => (szOf P elem).bind fun size => cond (Nat.blt k len) (some (.ptr id (off + k * size))) none
    | _, _, _ => none

def indexT (t : TypeId) (x i : CV) : Option CV :=
  (P.underlying t).bind fun d =>
    match d, x, i with
    | .array n elem, .agg cs, .int _ (.ofNat k) => (szOf P elem).bind fun size => cond (Nat.blt k n) (partT P elem cs (k * size)) none
    | .string, .str s, .int _ (.ofNat k) => (nth s k).map fun b => .int .u8 (Int.ofNat b)
    | _, _, _ => none

def fieldAddrT (t : TypeId) (x : CV) (f : Nat) : Option CV :=
  (P.underlying t).bind fun d =>
    match d, x with
    | .struct fs, .ptr id off => (nth fs.toList f).bind fun fd => (szOf P fd.type).bind fun s => cond (Nat.beq s 0) none (some (.ptr id (off + fd.offset)))
    | _, _ => none

def fieldT (t : TypeId) (x : CV) (f : Nat) : Option CV :=
  (P.underlying t).bind fun d =>
    match d, x with
    | .struct fs, .agg cs => (nth fs.toList f).bind fun fd => partT P fd.type cs fd.offset
    | _, _ => none

def fillC (place : Nat → Option (Nat × Nat)) (n : Nat) : List (Nat × CV) → T CV → Option (T CV)
  | [], t => some t
  | p :: l, t => match place p.1 with
      | none => none
      | some (off, size) => cond (Nat.beq p.2.cells.length size && Nat.ble (off + size) n && p.2.cells.all CV.one)
          (fillC place n l (setAll p.2.cells off t)) none

def placesT : List Field → Option (List (Nat × Nat))
  | [] => some []
  | f :: fs => (szOf P f.type).bind fun s => (placesT fs).bind fun l => some ((f.offset, s) :: l)

def finB (z : List CV) (place : Nat → Option (Nat × Nat)) (parts : List (Nat × CV)) : Option CV :=
  cond (z.all CV.one) ((fillC place z.length parts .nil).bind fun tt => (({ n := z.length, d := z, t := tt } : Blk).loadF 0 z.length).map .agg) none

def buildT (t : TypeId) (parts : List (Nat × CV)) : Option CV :=
  (zeroT P t).bind fun z => (P.underlying t).bind fun d =>
    match d with
    | .struct fs => (placesT P fs.toList).bind fun l => finB z.cells (nth l) parts
    | .array _ elem => (szOf P elem).bind fun s => finB z.cells (fun i => some (i * s, s)) parts
    | _ => none

def buildSliceT (h : H) (t : TypeId) (len : Nat) (parts : List (Nat × CV)) : Option (CV × H) :=
  (P.underlying t).bind fun d =>
    match d with
    | .slice elem => (szOf P elem).bind fun s => (zeroT P elem).bind fun z =>
      cond (Nat.ble (len * s) 16777216 && Nat.beq z.cells.length s && Nat.blt 0 s && z.cells.all CV.one)
        ((fillC (fun i => some (i * s, s)) (len * s) parts .nil).bind fun tt =>
          some (.sl h.nx 0 len (.exact len), h.alloc (.cells { n := len * s, d := z.cells, t := tt }))) none
    | _ => none

def makeSliceT (h : H) (t : TypeId) (l c : CV) : Option (CV × H) :=
  (P.underlying t).bind fun d =>
    match d, l, c with
    | .slice elem, .int _ (.ofNat l), .int _ (.ofNat c) => (szOf P elem).bind fun s => (bytesT P elem).bind fun by_ => (zeroT P elem).bind fun z =>
      cond (Nat.ble l c && Nat.ble (c * by_) 70368744177664 && Nat.ble c 70368744177664 && Nat.beq z.cells.length s && Nat.blt 0 s && z.cells.all CV.one)
        (some (.sl h.nx 0 l (.exact c), h.alloc (.cells { n := c * s, d := z.cells, t := .nil }))) none
    | _, _, _ => none

/-- the cells of the first n elements of a slice or string -/
def firstC (h : H) (size n : Nat) : CV → Option (List CV)
  | .sl id off _ _ => (h.blk id).bind fun b => b.loadN off (n * size)
  | .nils => some []
  | .slend .. => cond (Nat.beq n 0) (some []) none
  | .sl0 .. => cond (Nat.beq n 0) (some []) none
  | .str s => some ((s.take n).map fun b => .int .u8 (Int.ofNat b))
  | .agg cs => some cs
  | _ => none

def lenC : CV → Option Nat
  | .sl _ _ l _ => some l
  | .nils | .slend .. | .sl0 .. => some 0
  | .str s => some s.length
  | _ => none

def lenZ (size : Nat) : CV → Option Nat
  | .agg cs => some (cs.length / size)
  | x => lenC x

def grown (h : H) (size : Nat) (old new : List CV) (need : Nat) : CV × H :=
  (.sl h.nx 0 need (.opn size), h.alloc (.cells (fillB (need * size) (old ++ new))))

/-- likewise; of a row of bytes the type is kept -/
def growB (by_ : Nat) (el : TypeId) (n : Nat) (cs : List CV) : Blk := cond (Nat.beq by_ 1) { fillB n cs with ty := some (el, false) } (fillB n cs)
def grownB (h : H) (size by_ : Nat) (el : TypeId) (old new : List CV) (need : Nat) : CV × H :=
  (.sl h.nx 0 need (.opn size), h.alloc (.cells (growB by_ el (need * size) (old ++ new))))

/-- in place, the type stays -/
def keepTy (el : TypeId) : Option (TypeId × Bool) → Option (TypeId × Bool)
  | some p => cond (Nat.beq p.1 el) (some (el, false)) none
  | none => none

def keepB (by_ : Nat) (el : TypeId) (y : Option (TypeId × Bool)) : Option (TypeId × Bool) := cond (Nat.beq by_ 1) (keepTy el y) none

def appendT (h : H) (sT : TypeId) (s x : CV) : Option (CV × H) :=
  (P.underlying sT).bind fun d =>
    match d with
    | .slice elem => (szOf P elem).bind fun size => (bytesT P elem).bind fun by_ => (zeroT P elem).bind fun z => (lenZ size x).bind fun n => (lenC s).bind fun sl => (firstC h size n x).bind fun new =>
      cond (Nat.blt 0 size && Nat.ble ((sl + n) * by_) 70368744177664 && Nat.ble (sl + n) 70368744177664 && Nat.beq z.cells.length size && Nat.beq new.length (n * size) && new.all CV.one)
      (match s with
        | .nils => cond (Nat.beq n 0) (some (.nils, h)) (some (grownB h size by_ elem [] new n))
        | .sl0 .. => cond (Nat.beq n 0) (some (s, h)) (some (grownB h size by_ elem [] new n))
        | .slend id _ _ sz => cond (Nat.beq n 0) (some (s, h)) ((h.blk id).bind fun b => cond (!b.ro && Nat.beq sz size) (some (grown (h.kill id) size [] new n)) none)
        | .sl id off len (.exact c) =>
          cond (Nat.ble (len + n) c)
            (cond (Nat.beq n 0) (some (s, h)) ((h.blk id).bind fun b => cond b.ro none ((b.storeN (off + len * size) new).map fun b' => (.sl id off (len + n) (.exact c), h.put id (.cells b')))))
            ((h.blk id).bind fun b => (b.loadN off (len * size)).bind fun old => some (grownB h size by_ elem old new (len + n)))
        | .sl id off len (.opn sz) => cond (Nat.beq sz size)
          ((h.blk id).bind fun b => cond b.ro none
            (cond (Nat.ble (off + (len + n) * size) b.n)
              ((b.storeN (off + len * size) new).map fun b' => (.sl id off (len + n) (.opn sz), h.put id (.cells b')))
              (cond (Nat.beq n 0) none (cond (Nat.beq off 0 && Nat.beq b.n (len * size))
                ((({ b with n := (len + n) * size, ty := keepB by_ elem b.ty } : Blk).storeN (len * size) new).map fun b' =>
                  (.sl h.nx 0 (len + n) (.opn sz), (h.kill id).alloc (.cells b')))
                ((b.loadN off (len * size)).bind fun old => some (grown (h.kill id) size old new (len + n))))))) none
        | _ => none) none
    | _ => none

def copyT (h : H) (dT : TypeId) (dst src : CV) : Option (CV × H) :=
  (P.underlying dT).bind fun d =>
    match d with
    | .slice elem => (szOf P elem).bind fun size => (lenC src).bind fun ls => (lenC dst).bind fun ld =>
      let n := Nat.min ls ld
      (firstC h size n src).bind fun cs =>
        match dst with
        | .nils | .slend .. | .sl0 .. => some (.int .i64 n, h)
        | .sl id off _ _ => (h.blk id).bind fun b => cond b.ro none ((b.storeN off cs).map fun b' => (.int .i64 n, h.put id (.cells b')))
        | _ => none
    | _ => none


def keyEq : CV → CV → Option Bool
  | .int k a, .int k' b => cond (k == k') (some (a == b)) none
  | .str a, .str b => some (a == b)
  | .bool a, .bool b => some (a == b)
  | _, _ => none

def keyOk (t : TypeId) (k : CV) : Bool :=
  match P.underlying t, k with
  | some (.int _), .int _ _ => true
  | some .string, .str _ => true
  | some .bool, .bool _ => true
  | _, _ => false

def findKF (k : CV) : List (CV × CV × Nat) → Nat → Option (Option (Nat × CV))
  | [], _ => some none
  | e :: es, i => (keyEq k e.1).bind fun b => cond b (some (some (i, e.2.1))) (findKF k es (i + 1))
def findK (k : CV) (es : List (CV × CV × Nat)) : Option (Option (Nat × CV)) := findKF k es 0

def H.mp (h : H) (id : Nat) : Option (List (CV × CV × Nat) × Nat) :=
  match h.t.get id with
  | some (.map es c) => some (es, c)
  | _ => none

def lookupT (h : H) (t : TypeId) (x k : CV) (ok : Bool) : Option CV :=
  (P.underlying t).bind fun d =>
    match d with
    | .map kt et => cond (keyOk P kt k)
      ((match x with | .nilm => some [] | .map id => (h.mp id).map Prod.fst | _ => none : Option (List (CV × CV × Nat))).bind fun es => (findK k es).bind fun r =>
        (match r with | some (_, v) => some (v, true) | none => (zeroT P et).map fun z => (z, false)).bind fun p =>
          some (cond ok (.tup [p.1, .bool p.2]) p.1)) none
    | _ => none

def modAt (es : List (CV × CV × Nat)) (i : Nat) (g : CV × CV × Nat → CV × CV × Nat) : List (CV × CV × Nat) := es.modify i g

def mapUpdateT (h : H) (t : TypeId) (m k v : CV) : Option H :=
  (P.underlying t).bind fun d =>
    match d, m with
    | .map kt _, .map id => cond (keyOk P kt k) ((h.mp id).bind fun (es, c) => (findK k es).bind fun r =>
        match r with
        | some (i, _) => some (h.put id (.map (modAt es i fun e => (k, v, e.2.2)) c))
        | none => some (h.put id (.map (es ++ [(k, v, c)]) (c + 1)))) none
    | _, _ => none

def mapEntryT (h : H) (t : TypeId) (m k : CV) : Option (CV × H) :=
  (P.underlying t).bind fun d =>
    match d, m with
    | .map kt et, .map id => cond (keyOk P kt k) ((h.mp id).bind fun (es, c) => (findK k es).bind fun r =>
        match r with
        | some (i, v) => (nth es i).bind fun e => some (.tup [v, .int .i64 e.2.2], h.put id (.map (modAt es i fun e => (k, e.2)) c))
        | none => (zeroT P et).bind fun z => some (.tup [z, .int .i64 c], h.put id (.map (es ++ [(k, z, c)]) (c + 1)))) none
    | _, _ => none

def entryStoreT (h : H) (m s v : CV) : Option H :=
  match m, s with
  | .map id, .int _ n => (h.mp id).bind fun (es, c) =>
    match es.findIdx? (fun e => (e.2.2 : Int) == n) with
    | some i => some (h.put id (.map (modAt es i fun e => (e.1, v, e.2.2)) c))
    | none => none
  | _, _ => none

def deleteT (h : H) (t : TypeId) (m k : CV) : Option H :=
  (P.underlying t).bind fun d =>
    match d with
    | .map kt _ => cond (keyOk P kt k)
      (match m with
       | .nilm => some h
       | .map id => (h.mp id).bind fun (es, c) => (findK k es).bind fun r =>
         match r with
         | some (i, _) => some (h.put id (.map (es.eraseIdx i) c))
         | none => some (h.put id (.map es c))
       | _ => none) none
    | _ => none

def rangeT (h : H) (t : TypeId) (x : CV) : Option (CV × H) :=
  (P.underlying t).bind fun d =>
    match d, x with
    | .string, .str s => some (.ptr h.nx 0, h.alloc (.strIter s 0))
    | .map _ _, .nilm => some (.ptr h.nx 0, h.alloc (.mapIter none 0 [] 0))
    | .map _ _, .map id => (h.mp id).bind fun (_, c) => some (.ptr h.nx 0, h.alloc (.mapIter (some id) c [] c))
    | _, _ => none

def decodeL (s : List Nat) (i : Nat) : Nat × Nat :=
  let at' (k : Nat) : Nat := (nth s (i + k)).getD 0
  let cont (k : Nat) : Bool := i + k < s.length && at' k / 64 == 2
  let b0 := at' 0
  if b0 < 0x80 then (b0, 1)
  else if b0 / 32 == 6 && cont 1 then
    let c := (b0 % 32) * 64 + at' 1 % 64
    if c ≥ 0x80 then (c, 2) else (Utf8.runeError, 1)
  else if b0 / 16 == 14 && cont 1 && cont 2 then
    let c := (b0 % 16) * 4096 + (at' 1 % 64) * 64 + at' 2 % 64
    if c ≥ 0x800 && Utf8.valid c then (c, 3) else (Utf8.runeError, 1)
  else if b0 / 8 == 30 && cont 1 && cont 2 && cont 3 then
    let c := (b0 % 8) * 262144 + (at' 1 % 64) * 4096 + (at' 2 % 64) * 64 + at' 3 % 64
    if c ≥ 0x10000 && Utf8.valid c then (c, 4) else (Utf8.runeError, 1)
  else (Utf8.runeError, 1)

def nextT (h : H) (it : CV) (isStr : Bool) : Option (CV × H) :=
  match it with
  | .ptr id 0 =>
    match h.t.get id, isStr with
    | some (.strIter s pos), true =>
      cond (Nat.blt pos s.length)
        (let p := decodeL s pos
         some (.tup [.bool true, .int .i64 pos, .int .i32 p.1], h.put id (.strIter s (pos + p.2))))
        (some (.tup [.bool false], h))
    | some (.mapIter none _ _ _), false => some (.tup [.bool false], h)
    | some (.mapIter (some m) since seen last), false => (h.mp m).bind fun (es, clock) =>
        cond (!seen.isEmpty && !es.isEmpty && es.all fun e => last ≤ e.2.2) none
        (match es.filter fun e => !seen.contains e.2.2 with
         | [] => some (.tup [.bool false], h)
         | [e] => cond (Nat.blt e.2.2 since) (some (.tup [.bool true, e.1, e.2.1], h.put id (.mapIter (some m) since (seen ++ [e.2.2]) clock))) none
         | _ => none)
    | _, _ => none
  | _ => none

def entryT (h : H) (it : CV) : Option CV :=
  match it with
  | .ptr id 0 =>
    match h.t.get id with
    | some (.mapIter (some m) _ seen stepped) => (h.mp m).bind fun (es, clock) =>
      cond (Nat.beq clock stepped) (seen.getLast?.bind fun st => (es.find? fun e => Nat.beq e.2.2 st).map fun e => .tup [e.1, e.2.1]) none
    | _ => none
  | _ => none

def allF (g : Field → Option Bool) : List Field → Option Bool
  | [] => some true
  | f :: fs => (g f).bind fun r => cond r (allF g fs) (some false)
def allN (g : Nat → Option Bool) : Nat → Nat → Option Bool
  | 0, _ => some true
  | n + 1, i => (g i).bind fun r => cond r (allN g n (i + 1)) (some false)

def eqIn : Nat → TypeId → CV → CV → Option Bool
  | 0, _, _, _ => none
  | fuel + 1, t, x, y => (P.underlying t).bind fun d =>
      match d, x, y with
      | .bool, .bool a, .bool b => some (a == b)
      | .int _, .int k a, .int k' b => cond (k == k') (some (a == b)) none
      | .string, .str a, .str b => some (a == b)
      | .pointer _, .nilp, .nilp => some true
      | .pointer _, .nilp, .ptr _ _ => some false
      | .pointer _, .ptr _ _, .nilp => some false
      | .interface _, .nili, .nili => some true
      | .interface _, .nili, .ifc _ _ => some false
      | .interface _, .ifc _ _, .nili => some false
      | .interface _, .ifc tx vx, .ifc ty vy => cond (Nat.beq tx ty) ((P.info? tx).bind fun i => cond i.comparable (eqIn fuel tx vx vy) none) (some false)
      | .struct fs, .agg xs, .agg ys => cond (P.stoodInHeld t) none
          (allF (fun f => cond (f.name == "_") (some true) ((partT P f.type xs f.offset).bind fun a => (partT P f.type ys f.offset).bind fun b => eqIn fuel f.type a b)) fs.toList)
      | .array n elem, .agg xs, .agg ys => (szOf P elem).bind fun s =>
          allN (fun i => (partT P elem xs (i * s)).bind fun a => (partT P elem ys (i * s)).bind fun b => eqIn fuel elem a b) n 0
      | .slice _, .nils, .nils => some true
      | .slice _, .nils, .sl .. => some false
      | .slice _, .sl .., .nils => some false
      | .slice _, .slend .., .nils => some false
      | .slice _, .sl0 .., .nils => some false
      | .map _ _, .nilm, .nilm => some true
      | .map _ _, .nilm, .map _ => some false
      | .map _ _, .map _, .nilm => some false
      | .func _ _ _, .nilf, .nilf => some true
      | .func _ _ _, .nilf, .fn .. => some false
      | .func _ _ _, .fn .., .nilf => some false
      | _, _, _ => none

def isConstO : Operand → Bool | .const _ => true | _ => false

def eqOk (t : TypeId) (xo yo : Operand) (x y : CV) : Bool :=
  match x, y with
  | .nili, .nili => isConstO xo || isConstO yo
  | .agg _, .agg _ => !P.eqGuardType P.depth t
  | _, _ => true

def binT (op : BinOp) (t : TypeId) (xo yo : Operand) (x y : CV) : Option CV :=
  match op, x, y with
  | .shl, .int k a, .int _ (.ofNat n) => some (.int k (k.wrap (a * 2 ^ (min n k.bits))))
  | .shr, .int k a, .int _ (.ofNat n) => some (.int k (a.fdiv (2 ^ (min n k.bits))))
  | op, .int k a, .int k' b => cond (k == k')
    (match op with
     | .add => some (.int k (k.wrap (a + b)))
     | .sub => some (.int k (k.wrap (a - b)))
     | .mul => some (.int k (k.wrap (a * b)))
     | .quo => cond (b == 0) none (some (.int k (k.wrap (a.tdiv b))))
     | .rem => cond (b == 0) none (some (.int k (a.tmod b)))
     | .and => some (.int k (k.wrap (BitVec.ofInt k.bits a &&& BitVec.ofInt k.bits b).toNat))
     | .or => some (.int k (k.wrap (BitVec.ofInt k.bits a ||| BitVec.ofInt k.bits b).toNat))
     | .xor => some (.int k (k.wrap (BitVec.ofInt k.bits a ^^^ BitVec.ofInt k.bits b).toNat))
     | .andNot => some (.int k (k.wrap (BitVec.ofInt k.bits a &&& ~~~(BitVec.ofInt k.bits b)).toNat))
     | .eql => some (.bool (a == b))
     | .neq => some (.bool (a != b))
     | .lss => some (.bool (a < b))
     | .leq => some (.bool (a ≤ b))
     | .gtr => some (.bool (a > b))
     | .geq => some (.bool (a ≥ b))
     | _ => none) none
  | op, .str a, .str b =>
    (match op with
     | .add => cond (Nat.ble (a.length + b.length) 70368744177664) (some (.str (a ++ b))) none
     | .eql => some (.bool (a == b))
     | .neq => some (.bool (!(a == b)))
     | _ => none)
  | .eql, x, y => cond (eqOk P t xo yo x y) ((eqIn P 100 t x y).map fun b => .bool b) none
  | .neq, x, y => cond (eqOk P t xo yo x y) ((eqIn P 100 t x y).map fun b => .bool (!b)) none
  | _, _, _ => none

def unT (op : UnOp) (x : CV) : Option CV :=
  match op, x with
  | .neg, .int k n => some (.int k (k.wrap (0 - n)))
  | .xor, .int k n => some (.int k (k.wrap (BitVec.ofInt k.bits (if k.signed then -1 else k.max) ^^^ BitVec.ofInt k.bits n).toNat))
  | .not, .bool b => some (.bool (!b))
  | _, _ => none

def bytesOf : List CV → Option (List Nat)
  | [] => some []
  | .int .u8 (.ofNat n) :: l => cond (Nat.blt n 256) ((bytesOf l).bind fun r => some (n :: r)) none
  | _ :: _ => none

def uv (r : Option (CV × H)) : Option Out := r.map fun p => .upd p.1 p.2
def vv (r : Option CV) : Option Out := r.map .val
def hh (r : Option H) : Option Out := r.map fun h => .upd und h

def convT (h : H) (src dst : TypeId) (x : CV) : Option Out :=
  (P.underlying src).bind fun sd => (P.underlying dst).bind fun dd =>
    match sd, dd, x with
    | .int _, .int k, .int _ n => some (.val (.int k (k.wrap n)))
    | .string, .string, .str s => some (.val (.str s))
    | .string, .slice e, .str s => (P.underlying e).bind fun ed =>
      match ed with
      | .int .u8 => some (.upd (.sl h.nx 0 s.length (.opn 1)) (h.alloc (.cells (fillB s.length (s.map fun b => .int .u8 (Int.ofNat b))))))
      | _ => none
    | .slice _, .slice e, .sl id off len c => (P.underlying e).bind fun ed =>
      match ed with
      | .int .u8 => cond (Nat.beq src dst) ((h.blk id).bind fun b => cond b.ro none (some (.val (.sl id off len c)))) none
      | _ => none
    | .slice e, .string, x => (P.underlying e).bind fun ed =>
      match ed, x with
      | .int .u8, .sl id off len _ => (h.blk id).bind fun b => (b.loadN off len).bind fun cs => (bytesOf cs).map fun l => .val (.str l)
      | .int .u8, .nils => some (.val (.str []))
      | .int .u8, .slend .. => some (.val (.str []))
      | .int .u8, .sl0 .. => some (.val (.str []))
      | _, _ => none
    | _, _, _ => none

def builtinT (h : H) (b : Builtin) (ats : List TypeId) (args : List CV) : Option Out :=
  match b, ats, args with
  | .len, t :: _, x :: _ => (P.underlying t).bind fun d =>
    (match d, x with
     | .string, .str s => some (.val (.int .i64 s.length))
     | .array n _, _ => some (.val (.int .i64 n))
     | .slice _, .str _ => none
     | .slice _, x => (lenC x).map fun n : Nat => .val (.int .i64 (n : Int))
     | .pointer a, _ => (P.underlying a).bind fun d' => (match d' with | .array n _ => some (.val (.int .i64 n)) | _ => none)
     | .map _ _, .nilm => some (.val (.int .i64 0))
     | .map _ _, .map id => (h.mp id).map fun p => .val (.int .i64 p.1.length)
     | _, _ => none)
  | .cap, t :: _, x :: _ => (P.underlying t).bind fun d =>
    (match d, x with
     | .slice _, .sl _ _ _ (.exact n) => some (.val (.int .i64 n))
     | .slice _, .nils => some (.val (.int .i64 0))
     | _, _ => none)
  | .append, t :: t2 :: _, s :: x :: _ => (P.underlying t2).bind fun d2 => (match d2, x with
      | .int _, .int _ (.ofNat n) => (P.underlying t).bind fun d => (match d with
        | .slice e => (zeroT P e).bind fun z => cond (Nat.ble n 1048576) (uv (appendT P h t s (.agg (repl z.cells n)))) none
        | _ => none)
      | _, .agg _ => none
      | .slice _, _ => uv (appendT P h t s x)
      | .string, _ => uv (appendT P h t s x)
      | _, _ => none)
  | .copy, t :: _, s :: x :: _ => uv (copyT P h t s x)
  | .delete, t :: _, m :: k :: _ => hh (deleteT P h t m k)
  | .min, _, [.int k a, .int _ b] => some (.val (.int k (if b < a then b else a)))
  | .max, _, [.int k a, .int _ b] => some (.val (.int k (if b > a then b else a)))
  | .clear, t :: _, x :: _ => (P.underlying t).bind fun d =>
    (match d, x with
     | _, .nils => some (.val und)
     | _, .nilm => some (.val und)
     | _, .slend .. => some (.val und)
     | _, .sl0 .. => some (.val und)
     | .slice e, .sl id off n _ => cond (Nat.beq n 0) (some (.val und)) ((zeroT P e).bind fun z => (h.blk id).bind fun b => cond (b.ro || z.cells.isEmpty) none
         ((b.storeN off (repl z.cells n)).map fun b' => .upd und (h.put id (.cells b'))))
     | .map _ _, .map id => (h.mp id).map fun p => .upd und (h.put id (.map [] p.2))
     | _, _ => none)
  | _, _, _ => none

def isTextO (P : Program) (f : FuncId) : Option Unit :=
  (nth P.funcs.toList f).bind fun fn => cond (fn.body.isSome) (some ()) none

def callFn (f : FuncId) (args : List CV) : Option Out := (isTextO P f).map fun _ => .enter f args

def callV (fv : CV) (args : List CV) : Option Out :=
  match fv with
  | .fn (.func f) first cap => callFn P f (first ++ args ++ cap)
  | .fn (.yield l) [] _ => some (.round l args)
  | _ => none

def optO (h : H) (env : T CV) : Option Operand → Option (Option CV)
  | none => some none
  | some o => (ev h env o).map some

def evParts (h : H) (env : T CV) : List (Nat × Operand) → Option (List (Nat × CV))
  | [] => some []
  | o :: l => (ev h env o.2).bind fun c => (evParts h env l).bind fun cs => some ((o.1, c) :: cs)

def cop (h : H) (env : T CV) (o : Oper) : Option Out :=
  match o.op with
  | .move x | .assign x => vv (ev h env x)
  | .pick c a b => (ev h env c).bind fun c => (ev h env a).bind fun a => (ev h env b).bind fun b => match c with | .bool t => some (.val (cond t a b)) | _ => none
  | .alloc e => (zeroT P e).bind fun z => cond (z.cells.all CV.one) (some (.upd (.ptr h.nx 0) (h.alloc (.cells (allocB e z.cells))))) none
  | .box e x => (ev h env x).bind fun v => cond (v.cells.all CV.one) (some (.upd (.ptr h.nx 0) (h.alloc (.cells (allocB e v.cells))))) none
  | .build t ps => (evParts h env ps.toList).bind fun l => vv (buildT P t l)
  | .buildSlice t n ps => (evParts h env ps.toList).bind fun l => uv (buildSliceT P h t n l)
  | .load t a => (ev h env a).bind fun a => match a with | .ptr id off => vv (loadT P h t id off) | _ => none
  | .store t a x => (ev h env a).bind fun a => (ev h env x).bind fun v => match a with | .ptr id off => hh (storeT P h t id off v) | _ => none
  | .nilCheck x => (ev h env x).bind fun v => match v with
    | .nilp | .nili | .nilf => none
    | .fn (.func f) a b => some (.val (.fn (.func f) a b))
    | .fn .. => none
    | v => some (.val v)
  | .binOp op t x y _ => (ev h env x).bind fun a => (ev h env y).bind fun b => vv (binT P op t x y a b)
  | .unOp op _ x => (ev h env x).bind fun a => vv (unT op a)
  | .convert s d x => (ev h env x).bind fun a => convT P h s d a
  | .makeInterface t x => (ev h env x).bind fun a => (P.underlying t).bind fun d => match d with | .interface _ => none | _ => some (.val (.ifc t a))
  | .makeFunc fn first cap => (match fn with | .yield _ => none | _ => some ()).bind fun _ => (evs h env first.toList).bind fun a => (evs h env cap.toList).bind fun b => some (.val (.fn fn a b))
  | .makeMap t r => (match r with | none => some () | some o => (ev h env o).bind fun v => (P.underlying t).bind fun d => match v, d with | .int _ _, .map _ _ => some () | _, _ => none).bind fun _ =>
      some (.upd (.map h.nx) (h.alloc (.map [] 0)))
  | .makeSlice t l c => (ev h env l).bind fun l => (ev h env c).bind fun c => uv (makeSliceT P h t l c)
  | .slice t x lo hi mx => (ev h env x).bind fun x => (optO h env lo).bind fun lo => (optO h env hi).bind fun hi => (optO h env mx).bind fun mx => vv (sliceT P h t x lo hi mx)
  | .fieldAddr t x f => (ev h env x).bind fun x => vv (fieldAddrT P t x f)
  | .field t x f => (ev h env x).bind fun x => vv (fieldT P t x f)
  | .indexAddr t x i => (ev h env x).bind fun x => (ev h env i).bind fun i => vv (indexAddrT P t x i)
  | .index t x i => (ev h env x).bind fun x => (ev h env i).bind fun i => vv (indexT P t x i)
  | .lookup t x k ok => (ev h env x).bind fun x => (ev h env k).bind fun k => vv (lookupT P h t x k ok)
  | .mapUpdate t m k v | .insert t m k v => (ev h env m).bind fun m => (ev h env k).bind fun k => (ev h env v).bind fun v => hh (mapUpdateT P h t m k v)
  | .mapEntry t m k => (ev h env m).bind fun m => (ev h env k).bind fun k => uv (mapEntryT P h t m k)
  | .entryStore _ m s v => (ev h env m).bind fun m => (ev h env s).bind fun s => (ev h env v).bind fun v => hh (entryStoreT h m s v)
  | .range t x => (ev h env x).bind fun x => uv (rangeT P h t x)
  | .next it s => (ev h env it).bind fun it => uv (nextT h it s)
  | .entry it => (ev h env it).bind fun it => vv (entryT h it)
  | .typeAssert x _ t ok => (ev h env x).bind fun x => (P.underlying t).bind fun d =>
      match d, x with
      | .interface _, _ => none
      | _, .nili => cond ok ((zeroT P t).bind fun z => some (.val (.tup [z, .bool false]))) none
      | _, .ifc t' v => cond (Nat.beq t t') (some (.val (cond ok (.tup [v, .bool true]) v))) (cond ok ((zeroT P t).bind fun z => some (.val (.tup [z, .bool false]))) none)
      | _, _ => none
  | .extract x i => (ev h env x).bind fun x => match x with | .tup vs => vv (nth vs i) | _ => none
  | .call c => (evs h env c.args.toList).bind fun args =>
      match c.callee with
      | .builtin b => builtinT P h b c.argTypes.toList args
      | .value f => (ev h env f).bind fun fv => callV P fv args
      | .invoke _ _ => none
  | _ => none

end ops

/-! ### execution -/
inductive Ex where
  | nrm
  | exit (id : Nat)
  | goto (l : Nat)
  | ret
  deriving Inhabited

def yld (env : T CV) (ops : List Oper) (j : Nat) : Option Bool :=
  ((nth ops j).bind (·.dst)).bind fun d => match env.get d with | some (.bool b) => some b | _ => none

def wantedC (env : T CV) (ops : List Oper) (o : Oper) : Bool :=
  match o.guard with
  | none => true
  | some (j, w) => match yld env ops j with | some b => b == w | none => false

def putE (n : Nat) (env : T CV) (dst : Option Tmp) (v : CV) : Option (T CV) :=
  match dst with
  | some d => cond (Nat.blt d n) (some (env.set d v)) none
  | none => some env

def okFB (n : Nat) : Fn → Bool
  | .yield l => Nat.blt l n
  | _ => true

mutual
/-- does a value name blocks below n alone -/
def okB (n : Nat) : CV → Bool
  | .ptr id _ | .sl id _ _ _ | .slend id _ _ _ | .sl0 id _ _ _ | .map id => Nat.blt id n
  | .fn f a b => okFB n f && okBL n a && okBL n b
  | .ifc _ v => okB n v
  | .agg cs => okBL n cs
  | .tup cs => okBL n cs
  | .str s => s.all fun x => Nat.blt x 256
  | _ => true
def okBL (n : Nat) : List CV → Bool
  | [] => true
  | c :: cs => okB n c && okBL n cs
end

def initEnv (args : List CV) : T CV := setAll args 0 .nil

def resV (P : Program) (h : H) (env : T CV) (r : ResultVar) : Option CV :=
  match r with
  | .tmp t => some (match env.get t with | some v => v | none => und)
  | .cell a t => match env.get a with | some (.ptr id off) => loadT P h t id off | _ => none

def resVs (P : Program) (h : H) (env : T CV) : List ResultVar → Option (List CV)
  | [] => some []
  | r :: l => (resV P h env r).bind fun v => (resVs P h env l).bind fun vs => some (v :: vs)

def one (l : List CV) : CV := match l with | [v] => v | l => .tup l

structure Res where
  x : Ex
  env : T CV
  h : H

/-! the looks at a region that draws its order -/
/-- who has to come up ahead of an operation, as bits -/
def maskOf (t : T Nat) : List Edge → Nat → Nat
  | [], m => m
  | e :: l, m => cond (Region.binds .any e) (maskOf t l (m ||| (2 ^ e.on ||| (t.get e.on).getD 0))) (maskOf t l m)
def befT : List Oper → Nat → T Nat → T Nat
  | [], _, t => t
  | o :: l, i, t => befT l (i + 1) (t.set i (maskOf t o.after.toList 0))
def isBefore (ops : List Oper) (j i : Nat) : Bool := Nat.testBit (((befT ops 0 .nil).get i).getD 0) j

def readsOf (ops : List Oper) (o : Oper) : List Tmp :=
  (o.op.operands.toList.filterMap fun | .tmp t => some t | _ => none) ++
  (match o.guard with
   | some (g, _) => ((nth ops g).bind (·.dst)).toList
   | none => [])

def notSelect (o : Oper) : Bool := match o.op with | .select .. => false | _ => true

/-- which operation lays each temporary; none, where two lay the same -/
def dstT : List Oper → Nat → T Nat → Option (T Nat)
  | [], _, t => some t
  | o :: l, i, t => match o.dst with
    | none => dstT l (i + 1) t
    | some d => match t.get d with
      | some _ => none
      | none => dstT l (i + 1) (t.set d i)

def readOk (ops : List Oper) (t : T Nat) (p : Nat) (o : Oper) (d : Tmp) : Bool :=
  match t.get d with
  | none => true
  | some q => (Nat.blt q p && o.after.toList.any fun e => Region.binds .any e && Nat.beq e.on q) || (Nat.blt p q && isBefore ops p q)

def readsOkF (ops : List Oper) (t : T Nat) : List Oper → Nat → Bool
  | [], _ => true
  | o :: l, p => notSelect o && (readsOf ops o).all (readOk ops t p o) && readsOkF ops t l (p + 1)

/-- the reads of a region that draws its order; each temporary is laid once -/
def readsOk (ops : List Oper) : Bool := match dstT ops 0 .nil with
  | some t => readsOkF ops t ops 0
  | none => false

def chainOk (ops : List Oper) : List Nat → Bool
  | a :: b :: l => isBefore ops a b && chainOk ops (b :: l)
  | _ => true

structure Tr where
  v : CV
  env : T CV
  wanted : Bool
  loud : Bool
  at_ : Nat
  deriving Inhabited

/-- each binding edge leads to an operation that stands before -/
def edgesOkF : List Oper → Nat → Bool
  | [], _ => true
  | o :: l, p => (o.after.toList.all fun e => !Region.binds .any e || Nat.blt e.on p) && edgesOkF l (p + 1)
def edgesOk (ops : List Oper) : Bool := edgesOkF ops 0

/-- may operation i come up when the louds in 'done' are done and those in 'left' are not -/
def allowedAt (ops : List Oper) (i : Nat) (done left : List Nat) : Bool :=
  (done.all fun l => !isBefore ops i l) && (left.all fun l => !isBefore ops l i)

/-! allocs that lead, and that nothing orders -/
mutual
/-- does a value name blocks of p alone -/
def idsIn (p : Nat → Bool) : CV → Bool
  | .ptr id _ | .sl id _ _ _ | .slend id _ _ _ | .sl0 id _ _ _ | .map id => p id
  | .fn f a b => (match f with | .yield l => p l | _ => true) && idsInL p a && idsInL p b
  | .ifc _ v => idsIn p v
  | .agg cs => idsInL p cs
  | .tup cs => idsInL p cs
  | _ => true
def idsInL (p : Nat → Bool) : List CV → Bool
  | [] => true
  | c :: cs => idsIn p c && idsInL p cs
end

def isAlloc (ops : List Oper) (i : Nat) : Bool := match nth ops i with
  | some o => (match o.op with | .alloc _ => o.guard.isNone | _ => false)
  | none => false
def leadN (ops : List Oper) : List Nat → Nat
  | [] => 0
  | i :: l => cond (isAlloc ops i) (leadN ops l + 1) 0
def H.wide (h : H) (m : Nat) : H := { h with nx := h.nx + m }
def H.lay (h : H) (id : Nat) (o : Option CObj) : H := match o with
  | some o => h.put id o
  | none => h
/-- the new blocks that stand ahead of an operation, laid -/
def leadH (ops : List Oper) (n0 i : Nat) : List (Nat × H) → Nat → H → H
  | [], _, g => g
  | p :: l, a, g => leadH ops n0 i l (a + 1) (cond (isBefore ops p.1 i) (g.lay (n0 + a) (p.2.t.get (n0 + a))) g)
def leadId (ops : List Oper) (n0 i : Nat) (ls : List Nat) (id : Nat) : Bool := Nat.blt id n0 || (match nth ls (id - n0) with | some q => isBefore ops q i | none => false)
def leadAll (opf : T CV → H → Oper → Option (CV × Option H)) (ops : List Oper) (h : H) (ls : List (Nat × H)) : List (Tr × Nat) → Bool
  | [] => true
  | p :: l => (cond (p.1.wanted && !p.1.loud && !((ls.map Prod.fst).all fun q => isBefore ops q p.2))
      (match nth ops p.2 with
       | some o => (match opf p.1.env (leadH ops h.nx p.2 ls 0 (h.wide ls.length)) o with
         | some (v, none) => beqC v p.1.v && idsIn (leadId ops h.nx p.2 (ls.map Prod.fst)) v
         | _ => false)
       | none => false) true) && leadAll opf ops h ls l
def leadB (ops : List Oper) (ls : List Nat) : Bool :=
  chainOk ops (ls.drop (leadN ops ls)) && (ls.drop (leadN ops ls)).all fun j => (ls.take (leadN ops ls)).all fun i => isBefore ops i j
/-- an operation stands behind the last of some -/
def lastB (ops : List Oper) (ls : List Nat) (j : Nat) : Bool := match ls.getLast? with
  | some a => isBefore ops a j
  | none => false
/-- an operation that has to wait for another one -/
def touchB (i0 : Nat) (o : Oper) : Bool := o.after.toList.any fun e => Region.binds .any e && Nat.beq e.on i0
/-- the alloc at place q of those that write may come up at any time before it -/
def floatB (ops : List Oper) (ls : List Nat) (q : Nat) : Bool := match nth ls q with
  | some i0 => isAlloc ops i0 && chainOk ops (ls.take q) && chainOk ops (ls.drop (q + 1)) && (ls.drop (q + 1)).all (fun j => isBefore ops i0 j && lastB ops (ls.take q) j) &&
      (List.range ops.length).all (fun i => match nth ops i with | some o => !touchB i0 o || lastB ops (ls.take q) i | none => true)
  | none => false
/-- an alloc, or a row of values laid anew -/
def isRow (ops : List Oper) (i : Nat) : Bool := match nth ops i with
  | some o => (match o.op with | .alloc _ => o.guard.isNone | .buildSlice _ _ _ => o.guard.isNone | _ => false)
  | none => false
def rowN (ops : List Oper) : List Nat → Nat
  | [] => 0
  | i :: l => cond (isRow ops i) (rowN ops l + 1) 0
def shutB (b : Blk) : Bool := !b.ro && (match b.loadN 0 b.n with | some l => okBL 0 l | none => false)
/-- the new blocks name no block -/
def shutAll (h : H) : List (Nat × H) → Nat → Bool
  | [], _ => true
  | p :: l, a => (match p.2.t.get (h.nx + a) with | some (.cells b) => shutB b | _ => false) && shutAll h l (a + 1)
def rowB (ops : List Oper) (ls : List Nat) : Bool :=
  chainOk ops (ls.drop (rowN ops ls)) && (ls.drop (rowN ops ls)).all fun j => (ls.take (rowN ops ls)).all fun i => isBefore ops i j
def chainF (ops : List Oper) (ls : List Nat) : Bool := cond (chainOk ops ls) true (cond (leadB ops ls) false ((List.range ls.length).any fun q => floatB ops ls q))
def noGlob : List (Nat × Operand) → Bool
  | [] => true
  | p :: l => (match p.2 with | .global _ => false | _ => true) && noGlob l
/-- an alloc, or a row of values laid anew, none of them a global's place -/
def isRowN (ops : List Oper) (i : Nat) : Bool := match nth ops i with
  | some o => (match o.op with | .alloc _ => o.guard.isNone | .buildSlice _ _ ps => o.guard.isNone && noGlob ps.toList | _ => false)
  | none => false
def floatR (ops : List Oper) (ls : List Nat) (q : Nat) : Bool := match nth ls q with
  | some i0 => isRowN ops i0 && chainOk ops (ls.take q) && chainOk ops (ls.drop (q + 1)) && (ls.drop (q + 1)).all (fun j => isBefore ops i0 j && lastB ops (ls.take q) j) &&
      (List.range ops.length).all (fun i => match nth ops i with | some o => !touchB i0 o || lastB ops (ls.take q) i | none => true)
  | none => false
/-- the block that was laid last names no block -/
def shutLast (h : H) : Bool := match h.t.get (h.nx - 1) with | some (.cells b) => shutB b | _ => false
/-- a new row of closed values may come up at any time before it -/
def floatS (ops : List Oper) (hs : List (Nat × H)) : Bool := (List.range hs.length).any fun q => floatR ops (hs.map Prod.fst) q && (match nth hs q with | some p => shutLast p.2 | none => false)
def ordOk (opf : T CV → H → Oper → Option (CV × Option H)) (ops : List Oper) (tr : List Tr) (hs : List (Nat × H)) (h : H) : Bool :=
  cond (chainF ops (hs.map Prod.fst)) true (cond (leadB ops (hs.map Prod.fst)) (leadAll opf ops h (hs.take (leadN ops (hs.map Prod.fst))) tr.zipIdx)
    (cond (floatS ops hs) true ((rowB ops (hs.map Prod.fst) && shutAll h (hs.take (rowN ops (hs.map Prod.fst))) 0) && leadAll opf ops h (hs.take (rowN ops (hs.map Prod.fst))) tr.zipIdx)))

/-- functions that are told by what they answer -/
abbrev Sums := FuncId → List CV → H → Option (CV × Option H)
def noSums : Sums := fun _ _ _ => none

mutual
def exec (P : Program) (σ : Sums) (fuel : Nat) (r : Option Nat) (n : Nat) (c : Code) (env : T CV) (h : H) : Option Res :=
  match fuel with
  | 0 => none
  | k + 1 =>
    match c with
    | .skip => some ⟨.nrm, env, h⟩
    | .label _ => some ⟨.nrm, env, h⟩
    | .region _ ops false => (ops1 P σ k r n ops.toList ops.toList env h).bind fun p => some ⟨.nrm, p.1, p.2⟩
    | .region _ ops true => (regD P σ k r n ops.toList env h).bind fun p => some ⟨.nrm, p.1, p.2⟩
    | .seq a b => (exec P σ k r n a env h).bind fun s => match s.x with | .nrm => exec P σ k r n b s.env s.h | _ => some s
    | .cond c a b => (ev h env c).bind fun v => match v with | .bool t => cond t (exec P σ k r n a env h) (exec P σ k r n b env h) | _ => none
    | .block id b => (exec P σ k r n b env h).bind fun s => match s.x with | .exit id' => cond (Nat.beq id id') (some ⟨.nrm, s.env, s.h⟩) (some s) | _ => some s
    | .loop b => (exec P σ k r n b env h).bind fun s => match s.x with | .nrm => exec P σ k r n (.loop b) s.env s.h | _ => some s
    | .exit id => some ⟨.exit id, env, h⟩
    | .goto l => some ⟨.goto l, env, h⟩
    | .ret => some ⟨.ret, env, h⟩
    | .scope b => (exec P σ k r n b env h).bind fun s => scopeC P σ k r n b s
    | .rangeFunc f ps assign body => (ev h env f).bind fun fv =>
        match r with
        | some _ => none
        | none =>
          match fv with
          | .fn (.func g) first cap =>
            let l := h.nx
            let h2 := h.alloc (.loop { state := .ready, pending := none, env := env, ntmps := n, params := ps.toList, assign := assign, body := body })
            (callC P σ k g (first ++ (.fn (.yield l) [] [] :: cap)) h2).bind fun p =>
              let h3 := p.2.getD h2
              match h3.t.get l with
              | some (.loop lp) => cond (lp.state == .busy) none
                  (let h4 := h3.put l (.loop { lp with state := .exhausted })
                   match lp.pending with
                   | none => some ⟨.nrm, env, h4⟩
                   | some j => exec P σ k r n j env h4)
              | _ => none
          | _ => none
    | .refuse _ => none
def scopeC (P : Program) (σ : Sums) (fuel : Nat) (r : Option Nat) (n : Nat) (b : Code) (s : Res) : Option Res :=
  match fuel with
  | 0 => none
  | k + 1 =>
    match s.x with
    | .goto l => match findLabel b l with
      | some rest => (exec P σ k r n rest s.env s.h).bind fun s' => scopeC P σ k r n b s'
      | none => some s
    | _ => some s
def opC (P : Program) (σ : Sums) (fuel : Nat) (r : Option Nat) (env : T CV) (h : H) (o : Oper) : Option (CV × Option H) :=
  match fuel with
  | 0 => none
  | k + 1 =>
    (cop P h env o).bind fun out =>
      match out with
      | .val v => some (v, none)
      | .upd v h' => some (v, some h')
      | .enter f args => callC P σ k f args h
      | .round l args => roundC P σ k l args h
def ops1 (P : Program) (σ : Sums) (fuel : Nat) (r : Option Nat) (n : Nat) (all l : List Oper) (env : T CV) (h : H) : Option (T CV × H) :=
  match fuel with
  | 0 => none
  | k + 1 =>
    match l with
    | [] => some (env, h)
    | o :: rest => cond (wantedC env all o)
        ((opC P σ k r env h o).bind fun p => (putE n env o.dst p.1).bind fun env' => ops1 P σ k r n all rest env' (p.2.getD h))
        ((putE n env o.dst und).bind fun env' => ops1 P σ k r n all rest env' h)
def regD (P : Program) (σ : Sums) (fuel : Nat) (r : Option Nat) (n : Nat) (ops : List Oper) (env : T CV) (h : H) : Option (T CV × H) :=
  match fuel with
  | 0 => none
  | k + 1 => cond (readsOk ops && edgesOk ops)
    ((trC P σ k r n ops 0 0 ops env h).bind fun p =>
      cond (ordOk (fun env h o => opC P σ k r env h o) ops p.1 p.2.1 h && quietsOk P σ k r ops p.1.zipIdx h p.2.1 []) (some (p.2.2, (p.2.1.getLast?.map Prod.snd).getD h)) none) none
def trC (P : Program) (σ : Sums) (fuel : Nat) (r : Option Nat) (n : Nat) (all : List Oper) (i c : Nat) (l : List Oper) (env : T CV) (h : H) : Option (List Tr × List (Nat × H) × T CV) :=
  match fuel with
  | 0 => none
  | k + 1 =>
    match l with
    | [] => some ([], [], env)
    | o :: rest => cond (wantedC env all o)
        ((opC P σ k r env h o).bind fun p => (putE n env o.dst p.1).bind fun env' =>
          match p.2 with
          | none => (trC P σ k r n all (i + 1) c rest env' h).bind fun q => some (⟨p.1, env, true, false, c⟩ :: q.1, q.2.1, q.2.2)
          | some h' => (trC P σ k r n all (i + 1) (c + 1) rest env' h').bind fun q => some (⟨p.1, env, true, true, c⟩ :: q.1, (i, h') :: q.2.1, q.2.2))
        ((putE n env o.dst und).bind fun env' => (trC P σ k r n all (i + 1) c rest env' h).bind fun q => some (⟨und, env, false, false, c⟩ :: q.1, q.2.1, q.2.2))
/-- at each stage (the heap behind so many louds) each quiet operation that may come up there yields its value -/
def quietsOk (P : Program) (σ : Sums) (fuel : Nat) (r : Option Nat) (ops : List Oper) (tr : List (Tr × Nat)) (h : H) (hs : List (Nat × H)) (done : List Nat) : Bool :=
  match fuel with
  | 0 => false
  | k + 1 => quietAt P σ k r ops tr h done (hs.map Prod.fst) &&
    (match hs with
     | p :: hs' => quietsOk P σ k r ops tr p.2 hs' (done ++ [p.1])
     | [] => true)
def quietAt (P : Program) (σ : Sums) (fuel : Nat) (r : Option Nat) (ops : List Oper) (tr : List (Tr × Nat)) (h : H) (done left : List Nat) : Bool :=
  match fuel with
  | 0 => false
  | k + 1 =>
    match tr with
    | [] => true
    | (t, i) :: tr' => (cond (t.wanted && !t.loud && !Nat.beq t.at_ done.length && allowedAt ops i done left)
        (match nth ops i with
         | some o => (match opC P σ k r t.env h o with
           | some (v, none) => beqC v t.v
           | _ => false)
         | none => false) true) && quietAt P σ k r ops tr' h done left
def callC (P : Program) (σ : Sums) (fuel : Nat) (f : FuncId) (args : List CV) (h : H) : Option (CV × Option H) :=
  match fuel with
  | 0 => none
  | k + 1 =>
    match σ f args h with
    | some r => some r
    | none =>
    (nth P.funcs.toList f).bind fun fn =>
      match fn.body with
      | none => none
      | some c => cond (Nat.ble args.length fn.ntmps) ((exec P σ k none fn.ntmps c (initEnv args) { h with low := h.nx }).bind fun s =>
        (match s.x with | .nrm | .ret => some () | _ => none).bind fun _ =>
          (resVs P s.h s.env fn.results.toList).bind fun vs =>
            let v := one vs
            some (v, cond (Nat.beq s.h.low h.nx && okB h.nx v) none (some { s.h with low := min h.low s.h.low }))) none
def roundC (P : Program) (σ : Sums) (fuel : Nat) (l : Nat) (args : List CV) (h : H) : Option (CV × Option H) :=
  match fuel with
  | 0 => none
  | k + 1 =>
    match h.t.get l with
    | some (.loop lp) => cond (Nat.beq args.length lp.params.length && lp.state == .ready && lp.params.all fun t => Nat.blt t lp.ntmps)
        (let env := (lp.params.zip args).foldl (fun t p => t.set p.1 p.2) lp.env
         (exec P σ k (some l) lp.ntmps lp.assign env h).bind fun s =>
          match s.x with
          | .nrm => match s.h.t.get l with
            | some (.loop lp1) => cond (lp1.state == .ready) ((exec P σ k (some l) lp.ntmps lp.body s.env (s.h.put l (.loop { lp1 with state := .busy }))).bind fun s2 =>
              match s2.h.t.get l with
              | some (.loop lp2) =>
                let j : Option Code := match s2.x with | .nrm => none | .ret => some .ret | .exit id => some (.exit id) | .goto t => some (.goto t)
                some (.bool j.isNone, some (s2.h.put l (.loop { lp2 with state := if j.isNone then .ready else .done, pending := j })))
              | _ => none) none
            | _ => none
          | _ => none) none
    | _ => none
end

def h0 (n : Nat) : H := { t := .nil, nx := n, low := n, gn := n }
end
end Go.Cl

namespace Go.Cl
noncomputable section
open Go Go.RowKit

/-! ### tries, lists -/
section tries
variable {α : Type}
theorem T.get_nil (n : Nat) : (T.nil : T α).get n = none := by cases n <;> rfl
theorem T.get_zero (t : T α) : t.get 0 = t.v := by cases t <;> rfl
theorem T.get_succ (t : T α) (m : Nat) : t.get (m + 1) = cond (Nat.beq (m % 2) 0) (t.l.get (m / 2)) (t.r.get (m / 2)) := by
  cases t with
  | nil => simp [T.l, T.r, T.get_nil]
  | node v l r =>
    show @Bool.rec (fun _ => Option α) (r.get (m / 2)) (l.get (m / 2)) (Nat.beq (m % 2) 0) = _
    cases Nat.beq (m % 2) 0 <;> rfl

theorem T.get_putF (x : Option α) : ∀ (f : Nat) (t : T α) (n k : Nat), n ≤ f → (T.putF x f t n).get k = if k = n then x else t.get k
  | 0, t, n, k, h => by
    have hn : n = 0 := by omega
    subst hn
    cases k with
    | zero => simp [T.putF_zero, T.get_zero, T.v]
    | succ k => simp [T.putF_zero, T.get_succ, T.l, T.r]
  | f + 1, t, 0, k, _ => by
    cases k with
    | zero => simp [T.putF_z, T.get_zero, T.v]
    | succ k => simp [T.putF_z, T.get_succ, T.l, T.r]
  | f + 1, t, m + 1, k, h => by
    have hm : m / 2 ≤ f := by omega
    rw [T.putF_succ]
    cases k with
    | zero => cases hb : Nat.beq (m % 2) 0 <;> simp [T.get_zero, T.v]
    | succ k =>
      cases hb : Nat.beq (m % 2) 0 with
      | true =>
        have e1 : m % 2 = 0 := Nat.eq_of_beq_eq_true hb
        simp only [cond_true, T.get_succ, T.l, T.r]
        cases hk : Nat.beq (k % 2) 0 with
        | true =>
          have e2 : k % 2 = 0 := Nat.eq_of_beq_eq_true hk
          simp only [cond_true, T.get_putF x f _ _ _ hm]
          by_cases e : k = m
          · subst e; simp
          · have : k / 2 ≠ m / 2 := by omega
            simp [this, e]
        | false =>
          have e2 : k % 2 ≠ 0 := Nat.ne_of_beq_eq_false hk
          have : k ≠ m := by rintro rfl; exact e2 e1
          simp [this]
      | false =>
        have e1 : m % 2 ≠ 0 := Nat.ne_of_beq_eq_false hb
        simp only [cond_false, T.get_succ, T.l, T.r]
        cases hk : Nat.beq (k % 2) 0 with
        | true =>
          have e2 : k % 2 = 0 := Nat.eq_of_beq_eq_true hk
          have : k ≠ m := by rintro rfl; exact e1 e2
          simp [this]
        | false =>
          have e2 : k % 2 ≠ 0 := Nat.ne_of_beq_eq_false hk
          simp only [cond_false, T.get_putF x f _ _ _ hm]
          by_cases e : k = m
          · subst e; simp
          · have : k / 2 ≠ m / 2 := by omega
            simp [this, e]

theorem T.get_set (t : T α) (n : Nat) (x : α) (k : Nat) : (t.set n x).get k = if k = n then some x else t.get k := T.get_putF _ _ _ _ _ (Nat.le_refl _)
theorem T.get_del (t : T α) (n k : Nat) : (t.del n).get k = if k = n then none else t.get k := T.get_putF _ _ _ _ _ (Nat.le_refl _)
theorem T.get_set_same (t : T α) (n : Nat) (x : α) : (t.set n x).get n = some x := by simp [T.get_set]
theorem T.get_set_ne (t : T α) {n k : Nat} (x : α) (h : k ≠ n) : (t.set n x).get k = t.get k := by simp [T.get_set, h]

theorem nth_eq : ∀ (l : List α) (n : Nat), nth l n = l[n]?
  | [], n => by cases n <;> rfl
  | a :: l, 0 => rfl
  | a :: l, n + 1 => by simp [nth, nth_eq l n]
end tries

mutual
theorem beqC_eq : ∀ (a b : CV), beqC a b = true → a = b
  | .bool a, b, e => by cases b <;> simp_all [beqC]
  | .int k a, b, e => by cases b <;> simp_all [beqC]
  | .str a, b, e => by cases b <;> simp_all [beqC]
  | .nilp, b, e => by cases b <;> simp_all [beqC]
  | .ptr x y, b, e => by
    cases b <;> simp only [beqC, Bool.and_eq_true, Bool.false_eq_true] at e
    rw [Nat.eq_of_beq_eq_true e.1, Nat.eq_of_beq_eq_true e.2]
  | .nils, b, e => by cases b <;> simp_all [beqC]
  | .sl x y z (.exact c), b, e => by
    cases b <;> try (simp [beqC] at e; done)
    rename_i c'
    cases c' <;> simp only [beqC, Bool.and_eq_true, Bool.false_eq_true] at e
    rw [Nat.eq_of_beq_eq_true e.1.1.1, Nat.eq_of_beq_eq_true e.1.1.2, Nat.eq_of_beq_eq_true e.1.2, Nat.eq_of_beq_eq_true e.2]
  | .sl x y z (.opn c), b, e => by
    cases b <;> try (simp [beqC] at e; done)
    rename_i c'
    cases c' <;> simp only [beqC, Bool.and_eq_true, Bool.false_eq_true] at e
    rw [Nat.eq_of_beq_eq_true e.1.1.1, Nat.eq_of_beq_eq_true e.1.1.2, Nat.eq_of_beq_eq_true e.1.2, Nat.eq_of_beq_eq_true e.2]
  | .slend x y z u, b, e => by
    cases b <;> simp only [beqC, Bool.and_eq_true, Bool.false_eq_true] at e
    rw [Nat.eq_of_beq_eq_true e.1.1.1, Nat.eq_of_beq_eq_true e.1.1.2, Nat.eq_of_beq_eq_true e.1.2, Nat.eq_of_beq_eq_true e.2]
  | .sl0 x y z u, b, e => by
    cases b <;> simp only [beqC, Bool.and_eq_true, Bool.false_eq_true] at e
    rw [Nat.eq_of_beq_eq_true e.1.1.1, Nat.eq_of_beq_eq_true e.1.1.2, Nat.eq_of_beq_eq_true e.1.2, Nat.eq_of_beq_eq_true e.2]
  | .nilm, b, e => by cases b <;> simp_all [beqC]
  | .map x, b, e => by
    cases b <;> simp only [beqC, Bool.false_eq_true] at e
    rw [Nat.eq_of_beq_eq_true e]
  | .fn g x y, b, e => by
    cases g <;> cases b <;> try (simp [beqC] at e; done)
    rename_i g' _ _
    cases g' <;> simp only [beqC, Bool.and_eq_true, Bool.false_eq_true] at e
    rw [Nat.eq_of_beq_eq_true e.1.1, beqCL_eq _ _ e.1.2, beqCL_eq _ _ e.2]
  | .nilf, b, e => by cases b <;> simp_all [beqC]
  | .ifc t v, b, e => by
    cases b <;> simp only [beqC, Bool.and_eq_true, Bool.false_eq_true] at e
    rw [Nat.eq_of_beq_eq_true e.1, beqC_eq _ _ e.2]
  | .nili, b, e => by cases b <;> simp_all [beqC]
  | .agg cs, b, e => by
    cases b <;> simp only [beqC, Bool.false_eq_true] at e
    rw [beqCL_eq _ _ e]
  | .tup cs, b, e => by
    cases b <;> simp only [beqC, Bool.false_eq_true] at e
    rw [beqCL_eq _ _ e]
theorem beqCL_eq : ∀ (a b : List CV), beqCL a b = true → a = b
  | [], b, e => by cases b <;> simp_all [beqCL]
  | x :: xs, b, e => by
    cases b <;> simp only [beqCL, Bool.and_eq_true, Bool.false_eq_true] at e
    rw [beqC_eq _ _ e.1, beqCL_eq _ _ e.2]
end

/-! ### renaming -/
structure Val where
  blk : Nat → Nat
  base : Nat → Nat
  ext : Nat → Nat
  odd : Nat → Addr

def adr (f : Val) (id off : Nat) : Addr := ⟨f.blk id, f.base id + off, none⟩
def renFn (f : Val) : Fn → Fn
  | .yield l => .yield (f.blk l)
  | x => x
def strV (s : List Nat) : ByteArray := ⟨(s.map UInt8.ofNat).toArray⟩

mutual
def ren (f : Val) : CV → Value
  | .bool b => .bool b
  | .int k n => .int k n
  | .str s => .string (strV s)
  | .nilp => .pointer none
  | .ptr id off => .pointer (some (adr f id off))
  | .nils => .slice none 0 0
  | .sl id off len (.exact n) => .slice (some (adr f id off)) len n
  | .sl id off len (.opn sz) => .slice (some (adr f id off)) len ((f.ext id - off) / sz)
  | .slend id off0 l sz => .slice (some (if (f.ext id - off0) / sz = l then adr f id off0 else adr f id (off0 + l * sz))) 0 ((f.ext id - off0) / sz - l)
  | .sl0 id off0 l sz => .slice (some (if sz = 0 then f.odd id else if (f.ext id - off0) / sz = l then adr f id off0 else adr f id (off0 + l * sz))) 0 0
  | .nilm => .map none
  | .map id => .map (some (f.blk id))
  | .fn fn first cap => .func (renFn f fn) (renL f first).toArray (renL f cap).toArray
  | .nilf => .nilFunc
  | .ifc t v => .iface t (ren f v)
  | .nili => .nilIface
  | .agg cs => .agg (renL f cs).toArray
  | .tup vs => .tuple (renL f vs).toArray
def renL (f : Val) : List CV → List Value
  | [] => []
  | c :: cs => ren f c :: renL f cs
end

theorem renL_eq (f : Val) : ∀ l, renL f l = l.map (ren f)
  | [] => rfl
  | c :: cs => by simp [renL, renL_eq f cs]

def okF (n : Nat) : Fn → Prop
  | .yield l => l < n
  | _ => True

mutual
def ok (n : Nat) : CV → Prop
  | .ptr id _ | .sl id _ _ _ | .slend id _ _ _ | .sl0 id _ _ _ | .map id => id < n
  | .fn f a b => okF n f ∧ okL n a ∧ okL n b
  | .ifc _ v => ok n v
  | .agg cs => okL n cs
  | .tup cs => okL n cs
  | .str s => ∀ x ∈ s, x < 256
  | _ => True
def okL (n : Nat) : List CV → Prop
  | [] => True
  | c :: cs => ok n c ∧ okL n cs
end

theorem okL_iff (n : Nat) : ∀ l, okL n l ↔ ∀ c ∈ l, ok n c
  | [] => by simp [okL]
  | c :: cs => by simp [okL, okL_iff n cs]

/-- agreement of valuations below n -/
def Agree (n : Nat) (f g : Val) : Prop := ∀ i, i < n → f.blk i = g.blk i ∧ f.base i = g.base i ∧ f.ext i = g.ext i ∧ f.odd i = g.odd i

theorem Agree.refl (n : Nat) (f : Val) : Agree n f f := fun _ _ => ⟨rfl, rfl, rfl, rfl⟩
theorem Agree.trans {n m : Nat} {f g h : Val} (a : Agree n f g) (b : Agree m g h) (hn : n ≤ m) : Agree n f h := fun i hi =>
  ⟨(a i hi).1.trans (b i (by omega)).1, (a i hi).2.1.trans (b i (by omega)).2.1, (a i hi).2.2.1.trans (b i (by omega)).2.2.1, (a i hi).2.2.2.trans (b i (by omega)).2.2.2⟩
theorem Agree.mono {n m : Nat} {f g : Val} (a : Agree m f g) (hn : n ≤ m) : Agree n f g := fun i hi => a i (by omega)

mutual
theorem ren_congr {n : Nat} {f g : Val} (h : Agree n f g) : ∀ v, ok n v → ren f v = ren g v
  | .bool _, _ | .int _ _, _ | .str _, _ | .nilp, _ | .nils, _ | .nilm, _ | .nilf, _ | .nili, _ => by simp [ren]
  | .ptr id off, hv => by simp only [ok] at hv; simp [ren, adr, h id hv]
  | .sl id off len (.exact c), hv => by simp only [ok] at hv; simp [ren, adr, h id hv]
  | .sl id off len (.opn c), hv => by simp only [ok] at hv; simp [ren, adr, h id hv]
  | .slend id _ _ _, hv => by simp only [ok] at hv; simp [ren, adr, h id hv]
  | .sl0 id _ _ _, hv => by simp only [ok] at hv; simp [ren, adr, h id hv]
  | .map id, hv => by simp only [ok] at hv; simp [ren, h id hv]
  | .fn fn a b, hv => by
    simp only [ok] at hv
    simp only [ren, renL_congr h a hv.2.1, renL_congr h b hv.2.2]
    cases fn <;> simp only [renFn]
    rename_i l; rw [(h l hv.1).1]
  | .ifc t v, hv => by simp only [ok] at hv; simp only [ren, ren_congr h v hv]
  | .agg cs, hv => by simp only [ok] at hv; simp only [ren, renL_congr h cs hv]
  | .tup cs, hv => by simp only [ok] at hv; simp only [ren, renL_congr h cs hv]
theorem renL_congr {n : Nat} {f g : Val} (h : Agree n f g) : ∀ l, okL n l → renL f l = renL g l
  | [], _ => rfl
  | c :: cs, hv => by simp only [okL] at hv; simp only [renL, ren_congr h c hv.1, renL_congr h cs hv.2]
end

mutual
theorem ok_mono {n m : Nat} (h : n ≤ m) : ∀ v, ok n v → ok m v
  | .bool _, _ | .int _ _, _ | .nilp, _ | .nils, _ | .nilm, _ | .nilf, _ | .nili, _ => by simp [ok]
  | .str _, hv => by simpa [ok] using hv
  | .ptr id off, hv => by simp only [ok] at hv ⊢; omega
  | .sl id _ _ _, hv => by simp only [ok] at hv ⊢; omega
  | .slend id _ _ _, hv => by simp only [ok] at hv ⊢; omega
  | .sl0 id _ _ _, hv => by simp only [ok] at hv ⊢; omega
  | .map id, hv => by simp only [ok] at hv ⊢; omega
  | .fn fn a b, hv => by
    simp only [ok] at hv ⊢
    refine ⟨?_, okL_mono h a hv.2.1, okL_mono h b hv.2.2⟩
    cases fn <;> simp only [okF] at *
    have := hv.1; omega
  | .ifc t v, hv => by simp only [ok] at hv ⊢; exact ok_mono h v hv
  | .agg cs, hv => by simp only [ok] at hv ⊢; exact okL_mono h cs hv
  | .tup cs, hv => by simp only [ok] at hv ⊢; exact okL_mono h cs hv
theorem okL_mono {n m : Nat} (h : n ≤ m) : ∀ l, okL n l → okL m l
  | [], _ => trivial
  | c :: cs, hv => by simp only [okL] at hv ⊢; exact ⟨ok_mono h c hv.1, okL_mono h cs hv.2⟩
end

mutual
theorem ok_of_okB {n : Nat} : ∀ v, okB n v = true → ok n v
  | .bool _, _ | .int _ _, _ | .nilp, _ | .nils, _ | .nilm, _ | .nilf, _ | .nili, _ => by simp [ok]
  | .str s, hv => by
    simp only [okB, List.all_eq_true] at hv
    simp only [ok]
    exact fun x hx => Nat.blt_eq.mp (hv x hx)
  | .ptr id off, hv => by simp only [okB] at hv; simp only [ok]; exact Nat.blt_eq.mp hv
  | .sl id _ _ _, hv => by simp only [okB] at hv; simp only [ok]; exact Nat.blt_eq.mp hv
  | .slend id _ _ _, hv => by simp only [okB] at hv; simp only [ok]; exact Nat.blt_eq.mp hv
  | .sl0 id _ _ _, hv => by simp only [okB] at hv; simp only [ok]; exact Nat.blt_eq.mp hv
  | .map id, hv => by simp only [okB] at hv; simp only [ok]; exact Nat.blt_eq.mp hv
  | .fn fn a b, hv => by
    simp only [okB, Bool.and_eq_true] at hv
    simp only [ok]
    refine ⟨?_, okL_of_okB a hv.1.2, okL_of_okB b hv.2⟩
    cases fn <;> simp only [okF]
    exact Nat.blt_eq.mp hv.1.1
  | .ifc t v, hv => by simp only [okB] at hv; simp only [ok]; exact ok_of_okB v hv
  | .agg cs, hv => by simp only [okB] at hv; simp only [ok]; exact okL_of_okB cs hv
  | .tup cs, hv => by simp only [okB] at hv; simp only [ok]; exact okL_of_okB cs hv
theorem okL_of_okB {n : Nat} : ∀ l, okBL n l = true → okL n l
  | [], _ => trivial
  | c :: cs, hv => by simp only [okBL, Bool.and_eq_true] at hv; exact ⟨ok_of_okB c hv.1, okL_of_okB cs hv.2⟩
end

/-! ### the relation -/
def evT (env : T CV) (t : Nat) : CV := match env.get t with | some v => v | none => und

structure EnvAt (nx : Nat) (f : Val) (n : Nat) (env : T CV) (tmps : Array Value) : Prop where
  size : tmps.size = n
  val : ∀ t, tmps.getD t undef = ren f (evT env t)
  ok : ∀ t v, env.get t = some v → t < n ∧ ok nx v

structure BlkOk (nx : Nat) (f : Val) (id : Nat) (b : Blk) (cs : Array Value) (fr : Nat × Nat) : Prop where
  free : b.ro = true ∨ fr.1 = fr.2 ∨ cs.size ≤ fr.1
  ext : b.n ≤ f.ext id
  room : f.base id + f.ext id ≤ cs.size
  cell : ∀ i, i < b.n → ∃ v, b.get i = some v ∧ v.one = true ∧ ok nx v ∧ cs[f.base id + i]? = some (ren f v)

/-- what a block's type says, where it is kept -/
def TyOk (f : Val) (id : Nat) (b : Blk) (cs : Array Value) (e : TypeId) : Prop := ∀ t, b.ty = some t → e = t.1 ∧ f.base id = 0 ∧ (t.2 = true → cs.size = b.n)
theorem TyOk.none {f : Val} {id : Nat} {b : Blk} {cs : Array Value} {e : TypeId} (h : b.ty = Option.none) : TyOk f id b cs e := fun t ht => by rw [h] at ht; cases ht

def renE (f : Val) (e : CV × CV × Nat) : MapEntry := { key := ren f e.1, val := ren f e.2.1, born := e.2.2 }

inductive ObjOk (nx : Nat) (f : Val) (id : Nat) : CObj → Obj → Prop
  | cells {b : Blk} {cs : Array Value} {e : TypeId} {fr : Nat × Nat} (h : BlkOk nx f id b cs fr) (ht : TyOk f id b cs e) : ObjOk nx f id (.cells b) (.cells cs e fr)
  | map {es : List (CV × CV × Nat)} {c : Nat} (h : ∀ e ∈ es, ok nx e.1 ∧ ok nx e.2.1) : ObjOk nx f id (.map es c) (.map (es.map (renE f)).toArray c)
  | strIter {s : List Nat} {pos : Nat} (hb : f.base id = 0) (h : ∀ x ∈ s, x < 256) : ObjOk nx f id (.strIter s pos) (.stringIter (strV s) pos)
  | mapIter {m : Option Nat} {since : Nat} {seen : List Nat} {st : Nat} (hb : f.base id = 0) (h : ∀ i, m = some i → i < nx) : ObjOk nx f id (.mapIter m since seen st) (.mapIter (m.map f.blk) since seen.toArray st)
  | loop {l : CLoop} {L : Loop} (h1 : L.state = l.state) (h2 : L.pending = l.pending) (h3 : L.params.toList = l.params) (h4 : L.assign = l.assign) (h5 : L.body = l.body)
      (h6 : EnvAt nx f l.ntmps l.env L.tmps) : ObjOk nx f id (.loop l) (.loop L)

def CObj.ro : CObj → Bool
  | .cells b => b.ro
  | _ => false

/-- the relation: blocks that are never written (ro) may share the model's blocks -/
structure Rel (f : Val) (h : H) (w : World) : Prop where
  obj : ∀ id o, h.t.get id = some o → id < h.nx ∧ ∃ O, w.heap[f.blk id]? = some O ∧ ObjOk h.nx f id o O
  inj : ∀ id id' o o', h.t.get id = some o → h.t.get id' = some o' → o.ro = false → f.blk id = f.blk id' → id = id'
  glob : ∀ g, g < h.gn → g < h.nx ∧ f.blk g = g ∧ f.base g = 0

structure Step (f : Val) (h : H) (w : World) (f' : Val) (h' : H) (w' : World) : Prop where
  rel : Rel f' h' w'
  agree : Agree h.nx f f'
  nx : h.nx ≤ h'.nx
  gn : h'.gn = h.gn
  os : w'.os = w.os
  tape : w'.tape = w.tape
  output : w'.output = w.output
  size : w.heap.size ≤ w'.heap.size
  frame : ∀ k, k < w.heap.size → (∀ id o, h.t.get id = some o → o.ro = false → f.blk id ≠ k) → w'.heap[k]? = w.heap[k]?
  img : ∀ id o, h'.t.get id = some o → (∃ id0 o0, h.t.get id0 = some o0 ∧ (o.ro = false → o0.ro = false) ∧ f.blk id0 = f'.blk id) ∨ w.heap.size ≤ f'.blk id
  low : h'.low ≤ h.low
  old : ∀ id, id < h.nx → id < h'.low → h'.t.get id = h.t.get id

theorem Step.refl {f : Val} {h : H} {w : World} (r : Rel f h w) : Step f h w f h w :=
  ⟨r, Agree.refl _ _, Nat.le_refl _, rfl, rfl, rfl, rfl, Nat.le_refl _, fun _ _ _ => rfl, fun id o ho => .inl ⟨id, o, ho, fun h => h, rfl⟩, Nat.le_refl _, fun _ _ _ => rfl⟩

theorem Step.trans {f1 f2 f3 : Val} {h1 h2 h3 : H} {w1 w2 w3 : World} (a : Step f1 h1 w1 f2 h2 w2) (b : Step f2 h2 w2 f3 h3 w3) : Step f1 h1 w1 f3 h3 w3 where
  rel := b.rel
  agree := a.agree.trans b.agree a.nx
  nx := Nat.le_trans a.nx b.nx
  gn := b.gn.trans a.gn
  os := b.os.trans a.os
  tape := b.tape.trans a.tape
  output := b.output.trans a.output
  size := Nat.le_trans a.size b.size
  frame := fun k hk hn => by
    rw [b.frame k (Nat.lt_of_lt_of_le hk a.size) ?_, a.frame k hk hn]
    intro id o ho hr e
    rcases a.img id o ho with ⟨id0, o0, h0, r0, e0⟩ | hge
    · exact hn id0 o0 h0 (r0 hr) (e0.trans e)
    · omega
  img := fun id o ho => by
    rcases b.img id o ho with ⟨id1, o1, h1', r1, e1⟩ | hge
    · rcases a.img id1 o1 h1' with ⟨id0, o0, h0, r0, e0⟩ | hge
      · exact .inl ⟨id0, o0, h0, fun h => r0 (r1 h), e0.trans e1⟩
      · exact .inr (by omega)
    · exact .inr (Nat.le_trans a.size hge)
  low := Nat.le_trans b.low a.low
  old := fun id hid hlow => by
    have := b.low
    rw [b.old id (Nat.lt_of_lt_of_le hid a.nx) hlow, a.old id hid (by omega)]

/-! ### carrying objects over -/
theorem EnvAt.mono {nx nx' n : Nat} {f f' : Val} {env : T CV} {tmps : Array Value} (h : EnvAt nx f n env tmps) (a : Agree nx f f') (hn : nx ≤ nx') : EnvAt nx' f' n env tmps where
  size := h.size
  val := fun t => by
    rw [h.val t]
    unfold evT
    cases e : env.get t with
    | none => simp [und, ren, renL]
    | some v => exact ren_congr a v (h.ok t v e).2
  ok := fun t v e => ⟨(h.ok t v e).1, ok_mono hn v (h.ok t v e).2⟩

theorem BlkOk.mono {nx nx' id : Nat} {f f' : Val} {b : Blk} {cs : Array Value} {fr : Nat × Nat} (h : BlkOk nx f id b cs fr) (a : Agree nx f f') (hn : nx ≤ nx') (hid : id < nx) : BlkOk nx' f' id b cs fr where
  free := h.free
  ext := by rw [← (a id hid).2.2.1]; exact h.ext
  room := by rw [← (a id hid).2.2.1, ← (a id hid).2.1]; exact h.room
  cell := fun i hi => by
    obtain ⟨v, h1, h2, h3, h4⟩ := h.cell i hi
    exact ⟨v, h1, h2, ok_mono hn v h3, by rw [← (a id hid).2.1, ← ren_congr a v h3]; exact h4⟩

theorem ObjOk.mono {nx nx' id : Nat} {f f' : Val} {o : CObj} {O : Obj} (h : ObjOk nx f id o O) (a : Agree nx f f') (hn : nx ≤ nx') (hid : id < nx) : ObjOk nx' f' id o O := by
  cases h with
  | cells h ht => exact .cells (h.mono a hn hid) fun t e => ⟨(ht t e).1, by rw [← (a id hid).2.1]; exact (ht t e).2.1, (ht t e).2.2⟩
  | map h =>
    rename_i es c
    have : es.map (renE f) = es.map (renE f') := List.map_congr_left fun e he => by
      simp only [renE, ren_congr a _ (h e he).1, ren_congr a _ (h e he).2]
    rw [this]
    exact .map fun e he => ⟨ok_mono hn _ (h e he).1, ok_mono hn _ (h e he).2⟩
  | strIter hb h => exact .strIter (by rw [← (a id hid).2.1]; exact hb) h
  | mapIter hb h =>
    rename_i m since seen st
    have : m.map f.blk = m.map f'.blk := by
      cases m with
      | none => rfl
      | some i => simp [(a i (h i rfl)).1]
    rw [this]
    exact .mapIter (by rw [← (a id hid).2.1]; exact hb) fun i hi => Nat.lt_of_lt_of_le (h i hi) hn
  | loop h1 h2 h3 h4 h5 h6 => exact .loop h1 h2 h3 h4 h5 (h6.mono a hn)

theorem Rel.lt {f : Val} {h : H} {w : World} (r : Rel f h w) {id : Nat} {o : CObj} (ho : h.t.get id = some o) : f.blk id < w.heap.size := by
  obtain ⟨_, O, hO, _⟩ := r.obj id o ho
  exact (Array.getElem?_eq_some_iff.1 hO).1

/-! ### steps of the world that the evaluator does not see -/
/-- the heap keeps all that it had -/
structure Keeps (w w' : World) : Prop where
  os : w'.os = w.os
  tape : w'.tape = w.tape
  output : w'.output = w.output
  size : w.heap.size ≤ w'.heap.size
  get : ∀ k, k < w.heap.size → w'.heap[k]? = w.heap[k]?

theorem Keeps.refl (w : World) : Keeps w w := ⟨rfl, rfl, rfl, Nat.le_refl _, fun _ _ => rfl⟩
theorem Keeps.drew (w : World) : Keeps w { w with drawn := w.drawn + 1 } := ⟨rfl, rfl, rfl, Nat.le_refl _, fun _ _ => rfl⟩
theorem Keeps.alloc (w : World) (o : Obj) : Keeps w (w.alloc o) := ⟨rfl, rfl, rfl, by simp, fun k hk => Below.heap_alloc w o k hk⟩

theorem Step.keeps {f : Val} {h : H} {w w' : World} (r : Rel f h w) (k : Keeps w w') : Step f h w f h w' where
  rel := ⟨fun id o ho => by
      obtain ⟨h1, O, h2, h3⟩ := r.obj id o ho
      exact ⟨h1, O, by rw [k.get _ (r.lt ho)]; exact h2, h3⟩, r.inj, r.glob⟩
  agree := Agree.refl _ _
  nx := Nat.le_refl _
  gn := rfl
  os := k.os
  tape := k.tape
  output := k.output
  size := k.size
  frame := fun j hj _ => k.get j hj
  img := fun id o ho => .inl ⟨id, o, ho, fun h => h, rfl⟩
  low := Nat.le_refl _
  old := fun _ _ _ => rfl

/-- a block of the evaluator's is written -/
theorem Step.put {f : Val} {h : H} {w w' : World} (r : Rel f h w) {id : Nat} {o o' : CObj} {O' : Obj} (ho : h.t.get id = some o) (hro : o.ro = false)
    (hw : w' = w.putObj (f.blk id) O') (hO : ObjOk h.nx f id o' O') : Step f h w f (h.put id o') w' := by
  subst hw
  have hlt := r.lt ho
  refine ⟨⟨fun i p hp => ?_, fun i j p q hp hq hr e => ?_, r.glob⟩, Agree.refl _ _, Nat.le_refl _, rfl, rfl, rfl, rfl, by simp, fun k hk hn => ?_, fun i p hp => ?_, Nat.min_le_left _ _, fun i hi hl => ?_⟩
  · simp only [H.put] at hp ⊢
    rw [T.get_set] at hp
    split at hp
    · rename_i e
      cases hp; subst e
      exact ⟨(r.obj _ o ho).1, O', World.putObj_heap_same hlt, hO⟩
    · rename_i e
      obtain ⟨h1, O, h2, h3⟩ := r.obj i p hp
      refine ⟨h1, O, ?_, h3⟩
      rw [World.putObj_heap_other (fun e' => e (r.inj _ _ _ _ ho hp hro e'.symm).symm)]
      exact h2
  · simp only [H.put] at hp hq
    rw [T.get_set] at hp hq
    split at hp <;> split at hq
    · omega
    · rename_i e1 e2; subst e1; exact r.inj _ _ _ _ ho hq hro e
    · rename_i e1 e2; subst e2; exact r.inj _ _ _ _ hp ho hr e
    · exact r.inj _ _ _ _ hp hq hr e
  · exact World.putObj_heap_other (fun e => hn id o ho hro e.symm)
  · simp only [H.put] at hp
    rw [T.get_set] at hp
    split at hp
    · rename_i e; subst e; exact .inl ⟨_, o, ho, fun _ => hro, rfl⟩
    · exact .inl ⟨i, p, hp, fun h => h, rfl⟩
  · simp only [H.put] at hl ⊢
    rw [T.get_set_ne]
    rintro rfl
    omega

/-- the valuation with a new block -/
def Val.add (f : Val) (id blk base ext : Nat) : Val :=
  ⟨fun i => if i = id then blk else f.blk i, fun i => if i = id then base else f.base i, fun i => if i = id then ext else f.ext i, f.odd⟩

theorem Val.add_agree (f : Val) (n b c e : Nat) : Agree n f (f.add n b c e) := fun i hi => by
  simp [Val.add, Nat.ne_of_lt hi]
@[simp] theorem Val.add_blk (f : Val) (n b c e : Nat) : (f.add n b c e).blk n = b := by simp [Val.add]
@[simp] theorem Val.add_base (f : Val) (n b c e : Nat) : (f.add n b c e).base n = c := by simp [Val.add]
@[simp] theorem Val.add_ext (f : Val) (n b c e : Nat) : (f.add n b c e).ext n = e := by simp [Val.add]

/-- a new block -/
theorem Step.alloc {f : Val} {h : H} {w : World} (r : Rel f h w) (o : CObj) (O : Obj) (ext : Nat)
    (hO : ObjOk (h.nx + 1) (f.add h.nx w.heap.size 0 ext) h.nx o O) : Step f h w (f.add h.nx w.heap.size 0 ext) (h.alloc o) (w.alloc O) := by
  have hag := Val.add_agree f h.nx w.heap.size 0 ext
  have hb : ∀ i, i < h.nx → (f.add h.nx w.heap.size 0 ext).blk i = f.blk i := fun i hi => ((hag i hi).1).symm
  have hnew : (w.alloc O).heap[w.heap.size]? = some O := World.alloc_heap_new w O
  have hold : ∀ k, k < w.heap.size → (w.alloc O).heap[k]? = w.heap[k]? := (Keeps.alloc w O).get
  refine ⟨⟨fun i p hp => ?_, fun i j p q hp hq hr e => ?_, fun g hg => ⟨by have := (r.glob g hg).1; simp only [H.alloc]; omega, by rw [hb g (r.glob g hg).1]; exact (r.glob g hg).2.1, by rw [← (hag g (r.glob g hg).1).2.1]; exact (r.glob g hg).2.2⟩⟩, hag, by simp [H.alloc], rfl, rfl, rfl, rfl, by simp, fun k hk _ => hold k hk, fun i p hp => ?_, Nat.le_refl _, fun i hi _ => ?_⟩
  · simp only [H.alloc] at hp ⊢
    rw [T.get_set] at hp
    split at hp
    · rename_i e
      cases hp; subst e
      exact ⟨by omega, O, by rw [Val.add_blk]; exact hnew, hO⟩
    · obtain ⟨h1, Q, h2, h3⟩ := r.obj i p hp
      exact ⟨by omega, Q, by rw [hb i h1, hold _ (r.lt hp)]; exact h2, h3.mono hag (by omega) h1⟩
  · simp only [H.alloc] at hp hq
    rw [T.get_set] at hp hq
    split at hp <;> split at hq
    · omega
    · rename_i e1 e2; subst e1
      have := r.lt hq
      rw [Val.add_blk, hb j (r.obj j q hq).1] at e
      omega
    · rename_i e1 e2; subst e2
      have := r.lt hp
      rw [Val.add_blk, hb i (r.obj i p hp).1] at e
      omega
    · rw [hb i (r.obj i p hp).1, hb j (r.obj j q hq).1] at e
      exact r.inj _ _ _ _ hp hq hr e
  · simp only [H.alloc] at hp
    rw [T.get_set] at hp
    split at hp
    · rename_i e; subst e; exact .inr (by simp)
    · exact .inl ⟨i, p, hp, fun h => h, (hb i (r.obj i p hp).1).symm⟩
  · simp only [H.alloc]
    rw [T.get_set_ne _ _ (by omega)]

/-- a block is let go -/
theorem Step.kill {f : Val} {h : H} {w : World} (r : Rel f h w) (id : Nat) : Step f h w f (h.kill id) w := by
  have sub : ∀ i p, (h.kill id).t.get i = some p → h.t.get i = some p := fun i p hp => by
    simp only [H.kill] at hp
    rw [T.get_del] at hp
    split at hp
    · cases hp
    · exact hp
  refine ⟨⟨fun i p hp => r.obj i p (sub i p hp), fun i j p q hp hq hr e => r.inj i j p q (sub _ _ hp) (sub _ _ hq) hr e, r.glob⟩, Agree.refl _ _, Nat.le_refl _, rfl, rfl, rfl, rfl, Nat.le_refl _, fun _ _ _ => rfl,
    fun i p hp => .inl ⟨i, p, sub i p hp, fun h => h, rfl⟩, Nat.min_le_left _ _, fun i _ hl => ?_⟩
  simp only [H.kill] at hl ⊢
  rw [T.get_del, if_neg]
  rintro rfl
  omega

/-- a block is let go, and its cells, written on, are a new block's -/
theorem Step.regrow {f : Val} {h : H} {w w' : World} (r : Rel f h w) {id : Nat} {o o' : CObj} {O' : Obj} (base ext : Nat) (ho : h.t.get id = some o) (hro : o.ro = false)
    (hw : w' = w.putObj (f.blk id) O') (hO : ObjOk (h.nx + 1) (f.add h.nx (f.blk id) base ext) h.nx o' O') :
    Step f h w (f.add h.nx (f.blk id) base ext) ((h.kill id).alloc o') w' := by
  subst hw
  have hlt := r.lt ho
  have hag := Val.add_agree f h.nx (f.blk id) base ext
  have hb : ∀ i, i < h.nx → (f.add h.nx (f.blk id) base ext).blk i = f.blk i := fun i hi => ((hag i hi).1).symm
  have sub : ∀ i p, (h.t.del id).get i = some p → i ≠ id ∧ h.t.get i = some p := fun i p hp => by
    rw [T.get_del] at hp
    split at hp
    · cases hp
    · rename_i e; exact ⟨e, hp⟩
  refine ⟨⟨fun i p hp => ?_, fun i j p q hp hq hr e => ?_, fun g hg => ⟨by have := (r.glob g hg).1; simp only [H.alloc, H.kill]; omega, by rw [hb g (r.glob g hg).1]; exact (r.glob g hg).2.1, by rw [← (hag g (r.glob g hg).1).2.1]; exact (r.glob g hg).2.2⟩⟩, hag, by simp [H.alloc, H.kill], rfl, rfl, rfl, rfl, by simp, fun k hk hn => ?_, fun i p hp => ?_, Nat.min_le_left _ _, fun i hi hl => ?_⟩
  · simp only [H.alloc, H.kill] at hp ⊢
    rw [T.get_set] at hp
    split at hp
    · rename_i e
      cases hp; subst e
      exact ⟨by omega, O', by rw [Val.add_blk]; exact World.putObj_heap_same hlt, hO⟩
    · obtain ⟨hne, hp⟩ := sub i p hp
      obtain ⟨h1, Q, h2, h3⟩ := r.obj i p hp
      refine ⟨by omega, Q, ?_, h3.mono hag (by omega) h1⟩
      rw [hb i h1, World.putObj_heap_other (fun e' => hne (r.inj _ _ _ _ ho hp hro e'.symm).symm)]
      exact h2
  · simp only [H.alloc, H.kill] at hp hq
    rw [T.get_set] at hp hq
    split at hp <;> split at hq
    · omega
    · rename_i e1 e2; subst e1
      obtain ⟨hne, hq⟩ := sub j q hq
      rw [Val.add_blk, hb j (r.obj j q hq).1] at e
      exact absurd (r.inj _ _ _ _ ho hq hro e).symm hne
    · rename_i e1 e2; subst e2
      obtain ⟨hne, hp⟩ := sub i p hp
      rw [Val.add_blk, hb i (r.obj i p hp).1] at e
      exact absurd (r.inj _ _ _ _ ho hp hro e.symm).symm hne
    · obtain ⟨_, hp⟩ := sub i p hp
      obtain ⟨_, hq⟩ := sub j q hq
      rw [hb i (r.obj i p hp).1, hb j (r.obj j q hq).1] at e
      exact r.inj _ _ _ _ hp hq hr e
  · exact World.putObj_heap_other (fun e => hn id o ho hro e.symm)
  · simp only [H.alloc, H.kill] at hp
    rw [T.get_set] at hp
    split at hp
    · rename_i e; subst e; exact .inl ⟨_, o, ho, fun _ => hro, by simp⟩
    · obtain ⟨_, hp⟩ := sub i p hp
      exact .inl ⟨i, p, hp, fun h => h, (hb i (r.obj i p hp).1).symm⟩
  · simp only [H.alloc, H.kill] at hl ⊢
    rw [T.get_set_ne _ _ (by omega), T.get_del, if_neg]
    rintro rfl
    omega
end
end Go.Cl
