/- The abstract run of a region that draws its order: one order is run; what may come earlier or later is held against it. -/
import Derived.Test.YtcllmbmgchhigaaGreatXL
import Derived.OrdersIn
namespace Go.Proofs.YtcllmbmgchhigaaGreat
open Go.RowKit
noncomputable section

def edgeMask (M : List Nat) (i : Nat) : List Edge → Nat
  | [] => 0
  | e :: r => if Region.binds .any e && decide (e.on < i) then (2 ^ e.on ||| M.getD e.on 0) ||| edgeMask M i r else edgeMask M i r
def masksGo : List Oper → List Nat → List Nat
  | [], acc => acc
  | o :: r, acc => masksGo r (acc ++ [edgeMask acc acc.length o.after.toList])
def dstGo : List Oper → Nat → Tr Nat → Option (Tr Nat)
  | [], _, D => some D
  | o :: r, i, D => match o.dst with
    | none => dstGo r (i + 1) D
    | some d => match D.get d with
      | some _ => none
      | none => dstGo r (i + 1) (D.set 40 d (some i))
/-- What the text of a region must be like: edges go back, a slot is written once, who reads it waits for it. -/
def statGo (ops : Array Oper) (M : List Nat) (D : Tr Nat) : List Oper → Nat → Bool
  | [], _ => true
  | o :: r, i => (M.getD i 0 == edgeMask M i o.after.toList) && o.after.toList.all (fun e => !Region.binds .any e || decide (e.on < i)) &&
      (o.looksAt ops).all (fun t => match D.get t with | some j => (M.getD i 0).testBit j || (M.getD j 0).testBit i | none => true) && statGo ops M D r (i + 1)
def statS (ops : Array Oper) : Option (List Nat × Tr Nat) :=
  match dstGo ops.toList 0 .leaf with
  | some D => let M := masksGo ops.toList []
    if statGo ops M D ops.toList 0 then some (M, D) else none
  | none => none
inductive Rec where
  | val (v : Value)
  | alc (v : Value) (ob : AObj)
  | eff (v : Value)
def Rec.v : Rec → Value
  | .val v => v
  | .alc v _ => v
  | .eff v => v
def isAlloc : Op → Bool
  | .alloc _ | .box .. | .buildSlice .. | .makeSlice .. | .makeMap .. | .makeChan .. => true
  | _ => false
def matd (E : List Nat) (M : List Nat) (l : Nat) : Bool := E.any fun e => (M.getD e 0).testBit l
def rowsOf (R : Tr Rec) (n0 : Nat) (c : Nat → Bool) : List Nat → Tr AObj → Tr AObj
  | [], h => h
  | l :: r, h => match R.get l with
    | some (.alc _ ob) => if c l then rowsOf R n0 c r (h.set 40 (n0 + l) (some ob)) else rowsOf R n0 c r h
    | _ => rowsOf R n0 c r h
/-- The operations ahead of a place that make a block. -/
def makes (ops : Array Oper) (q : Nat) : Bool := match ops[q]? with
  | some o => isAlloc o.op
  | none => false
def rng (ops : Array Oper) (i : Nat) : List Nat := (List.range i).filter (makes ops)
theorem rng_lt {ops : Array Oper} {i q : Nat} (h : q ∈ rng ops i) : q < i := List.mem_range.1 (List.mem_filter.1 h).1
/-- An operation whose value hangs on its slots alone. -/
def free : Op → Bool
  | .move _ => true
  | .assign _ => true
  | .pick .. => true
  | .build .. => true
  | .nilCheck _ => true
  | .unOp .. => true
  | .convert .. => true
  | .makeFunc .. => true
  | .fieldAddr .. => true
  | .field .. => true
  | .indexAddr .. => true
  | .index .. => true
  | .extract .. => true
  | .makeInterface .. => true
  | .typeAssert .. => true
  | .binOp op _ _ _ _ => match op with
    | .eql => false
    | .neq => false
    | _ => true
  | _ => false
theorem binW_free {P : Program} {h1 h2 : Tr AObj} {op : BinOp} (t : TypeId) (x y : Value) (h : op ≠ .eql) (k : op ≠ .neq) : binW P h1 op t x y = binW P h2 op t x y := by
  unfold binW
  split
  · rfl
  · split
    · rfl
    · split
      · rfl
      · unfold binV
        split
        · rfl
        · rfl
        · split
          · cases op <;> first | rfl | exact absurd rfl h | exact absurd rfl k
          · rfl
theorem quiet_free {P : Program} {T : Tr Value} (h1 h2 : Tr AObj) (o : Op) (h : free o = true) : quiet P o T h1 = quiet P o T h2 := by
  cases o <;> first | rfl | (simp [free] at h; done) | skip
  case makeFunc fn f c => cases fn <;> rfl
  case binOp op t x y ty =>
    simp only [quiet]
    split
    · refine binW_free t _ _ (fun e => ?_) (fun e => ?_)
      · subst e; cases h
      · subst e; cases h
    · rfl
def passS (call : CallF) (P : Program) (N : Nat) (ops : Array Oper) (M : List Nat) (n0 : Nat) : List Oper → Nat → Tr Value → List St → St → List Nat → Tr Rec → Option (Tr Value × List St × St × List Nat × Tr Rec)
  | [], _, T, all, cur, E, R => some (T, all, cur, E, R)
  | o :: r, i, T, all, cur, E, R =>
    match wants ops T o with
    | some false => match putT N T o.dst (.tuple #[]) with
      | some T' => passS call P N ops M n0 r (i + 1) T' all cur E (R.set 40 i (some (.val (.tuple #[]))))
      | none => none
    | some true =>
      if isAlloc o.op then match allocV P o.op T (n0 + i) with
        | some (v, ob) => match putT N T o.dst v with
          | some T' => passS call P N ops M n0 r (i + 1) T' all cur E (R.set 40 i (some (.alc v ob)))
          | none => none
        | none => none
      else match quiet P o.op T cur.h with
        | some v => match putT N T o.dst v with
          | some T' => passS call P N ops M n0 r (i + 1) T' all cur E (R.set 40 i (some (.val v)))
          | none => none
        | none => if E.all (fun e => (M.getD i 0).testBit e) then
            match effF call P o.op T ⟨cur.next, rowsOf R n0 (fun l => (M.getD i 0).testBit l && !matd E M l) (rng ops i) cur.h⟩ with
            | some (v, s') => match putT N T o.dst v with
              | some T' => passS call P N ops M n0 r (i + 1) T' (all ++ [s']) s' (E ++ [i]) (R.set 40 i (some (.eff v)))
              | none => none
            | none => none
          else none
    | none => none
/-- May operation i come when the first k effects have come? -/
def adm (E M : List Nat) (i k : Nat) : Bool := E.zipIdx.all fun (e, c) => if c < k then !((M.getD e 0).testBit i) else !((M.getD i 0).testBit e)
def passT (P : Program) (ops : Array Oper) (M : List Nat) (all : List St) (E : List Nat) (R : Tr Rec) : List Oper → Nat → Tr Value → Bool
  | [], _, _ => true
  | o :: r, i, T => match R.get i with
    | some rec => (match rec with
      | .val v => free o.op || (match wants ops T o with
        | some false => true
        | some true => all.zipIdx.all fun (s, k) => !adm E M i k || (match quiet P o.op T s.h with | some u => veq 20 u v | none => false)
        | none => false)
      | _ => true) && passT P ops M all E R r (i + 1) (match o.dst with | some d => T.set 40 d (some rec.v) | none => T)
    | none => false
def drawS (P : Program) : DrawF := fun call N ops T s =>
  match statS ops with
  | some (M, _) => if P.follows .mixedOrders then
    match passS call P N ops M s.next ops.toList 0 T [⟨s.next + ops.size, s.h⟩] ⟨s.next + ops.size, s.h⟩ [] .leaf with
    | some (T', all, cur, E, R) => if passT P ops M all E R ops.toList 0 T then some (T', ⟨cur.next, rowsOf R s.next (fun l => !matd E M l) (rng ops ops.size) cur.h⟩) else none
    | none => none
    else none
  | none => none
end
end Go.Proofs.YtcllmbmgchhigaaGreat
