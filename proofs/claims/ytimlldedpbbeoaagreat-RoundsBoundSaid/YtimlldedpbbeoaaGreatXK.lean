/- The abstract run of a region that draws its order: one order is run; what may come earlier or later is held against it. -/
import Derived.Test.YtimlldedpbbeoaaGreatXL
import Derived.OrdersIn
namespace Go.Proofs.YtimlldedpbbeoaaGreat
open Go.RowKit
noncomputable section

def edgeMask (M : List Nat) (i : Nat) : List Edge → Nat
  | [] => 0
  | e :: r => if Region.binds .any e && decide (e.on < i) then (2 ^ e.on ||| M.getD e.on 0) ||| edgeMask M i r else edgeMask M i r
def masksGo : List Oper → List Nat → List Nat
  | [], acc => acc
  | o :: r, acc => masksGo r (acc ++ [edgeMask acc acc.length o.after.toList])
def dstGo : List Oper → Nat → Tr Nat → Option (Tr Nat)
  | [], _, D => some D
  | o :: r, i, D => match o.dst with
    | none => dstGo r (i + 1) D
    | some d => match D.get d with
      | some _ => none
      | none => dstGo r (i + 1) (D.set 40 d (some i))
/-- What the text of a region must be like: edges go back, a slot is written once, who reads it waits for it. -/
def statGo (ops : Array Oper) (M : List Nat) (D : Tr Nat) : List Oper → Nat → Bool
  | [], _ => true
  | o :: r, i => (M.getD i 0 == edgeMask M i o.after.toList) && o.after.toList.all (fun e => !Region.binds .any e || decide (e.on < i)) &&
      (o.looksAt ops).all (fun t => match D.get t with | some j => (M.getD i 0).testBit j || (M.getD j 0).testBit i | none => true) && statGo ops M D r (i + 1)
def statS (ops : Array Oper) : Option (List Nat × Tr Nat) :=
  match dstGo ops.toList 0 .leaf with
  | some D => let M := masksGo ops.toList []
    if statGo ops M D ops.toList 0 then some (M, D) else none
  | none => none
inductive Rec where
  | val (v : Value)
  | alc (v : Value) (ob : AObj)
  | eff (v : Value)
  | frk (b : Bool)
def Rec.v : Rec → Value
  | .val v => v
  | .alc v _ => v
  | .eff v => v
  | .frk b => .bool b
def Rec.eqB : Rec → Rec → Bool
  | .val a, .val b => veq 40 a b
  | .alc a x, .alc b y => veq 40 a b && aeq x y
  | .frk a, .frk b => a == b
  | _, _ => false
theorem Rec.eqB_eq {x y : Rec} (h : x.eqB y = true) : x = y := by
  unfold Rec.eqB at h
  split at h
  · rw [veq_eq _ _ _ h]
  · rw [Bool.and_eq_true] at h
    rw [veq_eq _ _ _ h.1, aeq_eq h.2]
  · rw [beq_iff_eq] at h
    rw [h]
  · cases h
def recEq (a b : Option Rec) : Bool := match a, b with
  | some x, some y => x.eqB y
  | none, none => true
  | _, _ => false
theorem recEq_eq {a b : Option Rec} (h : recEq a b = true) : a = b := by
  unfold recEq at h
  split at h
  · rw [Rec.eqB_eq h]
  · rfl
  · cases h
/-- A bool that nobody knows. -/
def isUnk : Value → Bool
  | .func (.method _) _ _ => true
  | _ => false
/-- The operations that others hang on. -/
def guardsOf (ops : Array Oper) : List Nat := ops.toList.filterMap fun o => o.guard.map (·.1)
abbrev Leaf := Tr Value × List St × St × List Nat × Tr Rec
/-- Two ways that part at operation i, behind c effects: what does not hang on i is alike in both. -/
def agree (M : List Nat) (n i c : Nat) (x y : Leaf) : Bool :=
  (x.2.2.2.1.drop c).all (fun e => e == i || (M.getD e 0).testBit i) && ((y.2.2.2.1.drop c).all (fun e => e == i || (M.getD e 0).testBit i) &&
    (List.range n).all fun q => Nat.ble q i || ((M.getD q 0).testBit i || recEq (x.2.2.2.2.get q) (y.2.2.2.2.get q)))
def allL {α β : Type} (f : α → Option β) : List α → Option (List β)
  | [] => some []
  | x :: r => match f x, allL f r with
    | some a, some b => some (a :: b)
    | _, _ => none
def agrees (M : List Nat) (n i c : Nat) (l m : List Leaf) : Bool := l.all fun x => m.any fun y => agree M n i c x y
def isAlloc : Op → Bool
  | .alloc _ | .box .. | .buildSlice .. | .makeSlice .. | .makeMap .. | .makeChan .. => true
  | _ => false
def matd (E : List Nat) (M : List Nat) (l : Nat) : Bool := E.any fun e => (M.getD e 0).testBit l
def rowsOf (R : Tr Rec) (n0 : Nat) (c : Nat → Bool) : List Nat → Tr AObj → Tr AObj
  | [], h => h
  | l :: r, h => match R.get l with
    | some (.alc _ ob) => if c l then rowsOf R n0 c r (h.set 40 (n0 + l) (some ob)) else rowsOf R n0 c r h
    | _ => rowsOf R n0 c r h
/-- The operations ahead of a place that make a block. -/
def makes (ops : Array Oper) (q : Nat) : Bool := match ops[q]? with
  | some o => isAlloc o.op
  | none => false
def rng (ops : Array Oper) (i : Nat) : List Nat := (List.range i).filter (makes ops)
theorem rng_lt {ops : Array Oper} {i q : Nat} (h : q ∈ rng ops i) : q < i := List.mem_range.1 (List.mem_filter.1 h).1
/-- An operation whose value hangs on its slots alone. -/
def free : Op → Bool
  | .move _ => true
  | .assign _ => true
  | .pick .. => true
  | .build .. => true
  | .nilCheck _ => true
  | .unOp .. => true
  | .convert .. => true
  | .makeFunc .. => true
  | .fieldAddr .. => true
  | .field .. => true
  | .indexAddr .. => true
  | .index .. => true
  | .extract .. => true
  | .makeInterface .. => true
  | .typeAssert .. => true
  | .binOp op _ _ _ _ => match op with
    | .eql => false
    | .neq => false
    | _ => true
  | _ => false
theorem binW_free {P : Program} {h1 h2 : Tr AObj} {op : BinOp} (t : TypeId) (x y : Value) (h : op ≠ .eql) (k : op ≠ .neq) : binW P h1 op t x y = binW P h2 op t x y := by
  unfold binW
  split
  · rfl
  · split
    · rfl
    · split
      · rfl
      · unfold binV
        split
        · rfl
        · rfl
        · split
          · cases op <;> first | rfl | exact absurd rfl h | exact absurd rfl k
          · rfl
theorem quiet_free {P : Program} {T : Tr Value} (h1 h2 : Tr AObj) (o : Op) (h : free o = true) : quiet P o T h1 = quiet P o T h2 := by
  cases o <;> first | rfl | (simp [free] at h; done) | skip
  case makeFunc fn f c => cases fn <;> rfl
  case binOp op t x y ty =>
    simp only [quiet]
    split
    · refine binW_free t _ _ (fun e => ?_) (fun e => ?_)
      · subst e; cases h
      · subst e; cases h
    · rfl
def oneL {α : Type} : List α → Bool
  | [_] => true
  | _ => false
def passS (call : CallF) (P : Program) (N : Nat) (ops : Array Oper) (M G : List Nat) (n0 : Nat) : List Oper → Nat → Tr Value → List St → St → List Nat → Tr Rec → Option (List Leaf)
  | [], _, T, all, cur, E, R => some [(T, all, cur, E, R)]
  | o :: r, i, T, all, cur, E, R =>
    match wants ops T o with
    | some false => match putT N T o.dst (.tuple #[]) with
      | some T' => passS call P N ops M G n0 r (i + 1) T' all cur E (R.set 40 i (some (.val (.tuple #[]))))
      | none => none
    | some true =>
      if isAlloc o.op then match allocV P o.op T (n0 + i) with
        | some (v, ob) => match putT N T o.dst v with
          | some T' => passS call P N ops M G n0 r (i + 1) T' all cur E (R.set 40 i (some (.alc v ob)))
          | none => none
        | none => none
      else match quiet P o.op T cur.h with
        | some v => if isUnk v && G.elem i then
            match putT N T o.dst (.bool true), putT N T o.dst (.bool false) with
            | some T1, some T2 => match passS call P N ops M G n0 r (i + 1) T1 all cur E (R.set 40 i (some (.frk true))), passS call P N ops M G n0 r (i + 1) T2 all cur E (R.set 40 i (some (.frk false))) with
              | some L1, some L2 => if agrees M ops.size i E.length L1 L2 && agrees M ops.size i E.length L2 L1 then some (L1 ++ L2) else none
              | _, _ => none
            | _, _ => none
          else match putT N T o.dst v with
          | some T' => passS call P N ops M G n0 r (i + 1) T' all cur E (R.set 40 i (some (.val v)))
          | none => none
        | none => if E.all (fun e => (M.getD i 0).testBit e) then
            match effL call P o.op T ⟨cur.next, rowsOf R n0 (fun l => (M.getD i 0).testBit l && !matd E M l) (rng ops i) cur.h⟩ with
            | some Lo => match allL (fun z => match putT N T o.dst z.1 with
                | some T' => passS call P N ops M G n0 r (i + 1) T' (all ++ [z.2]) z.2 (E ++ [i]) (R.set 40 i (some (.eff z.1)))
                | none => none) Lo with
              | some LL => if oneL LL || LL.all (fun l => LL.all (fun m => agrees M ops.size i E.length l m)) then some LL.flatten else none
              | none => none
            | none => none
          else none
    | none => none
/-- May operation i come when the first k effects have come? -/
def adm (E M : List Nat) (i k : Nat) : Bool := E.zipIdx.all fun (e, c) => if c < k then !((M.getD e 0).testBit i) else !((M.getD i 0).testBit e)
def passT (P : Program) (ops : Array Oper) (M : List Nat) (all : List St) (E : List Nat) (R : Tr Rec) : List Oper → Nat → Tr Value → Bool
  | [], _, _ => true
  | o :: r, i, T => match R.get i with
    | some rec => (match rec with
      | .val v => free o.op || (match wants ops T o with
        | some false => true
        | some true => all.zipIdx.all fun (s, k) => !adm E M i k || (match quiet P o.op T s.h with | some u => veq 20 u v | none => false)
        | none => false)
      | .frk _ => all.zipIdx.all fun (s, k) => !adm E M i k || (match quiet P o.op T s.h with | some u => isUnk u | none => false)
      | _ => true) && passT P ops M all E R r (i + 1) (match o.dst with | some d => T.set 40 d (some rec.v) | none => T)
    | none => false
def leafOK (P : Program) (ops : Array Oper) (M : List Nat) (T : Tr Value) (x : Leaf) : Bool := passT P ops M x.2.1 x.2.2.2.1 x.2.2.2.2 ops.toList 0 T
def leafEnd (ops : Array Oper) (M : List Nat) (n0 : Nat) (x : Leaf) : Tr Value × St := (x.1, ⟨x.2.2.1.next, rowsOf x.2.2.2.2 n0 (fun l => !matd x.2.2.2.1 M l) (rng ops ops.size) x.2.2.1.h⟩)
def drawS (P : Program) : DrawF := fun call N ops T s =>
  match statS ops with
  | some (M, _) => if P.follows .mixedOrders then
    match passS call P N ops M (guardsOf ops) s.next ops.toList 0 T [⟨s.next + ops.size, s.h⟩] ⟨s.next + ops.size, s.h⟩ [] .leaf with
    | some L => if !L.isEmpty && L.all (leafOK P ops M T) then some (L.map (leafEnd ops M s.next)) else none
    | none => none
    else none
  | none => none
end
end Go.Proofs.YtimlldedpbbeoaaGreat
