/- The abstract run once more, laid out so that the kernel goes through it more quickly: the same results. -/
import Derived.Test.YtcllmbmgchhigaaGreatXU
namespace Go.Proofs.YtcllmbmgchhigaaGreat
open Go.RowKit
noncomputable section

set_option linter.unusedVariables false in
def quietD : Op → Program → Tr Value → Tr AObj → Option Value := fun o => match o with
  | .move x => fun P T h => ev T x
  | .assign x => fun P T h => ev T x
  | .pick c a b => fun P T h => match ev T c with
    | some (.bool true) => ev T a
    | some (.bool false) => ev T b
    | some (.func (.method _) _ _) => match ev T a, ev T b with
      | some u, some v => joinV u v
      | _, _ => none
    | _ => none
  | .build t ps => fun P T h => match evParts T ps.toList with
    | some l => buildV P t l
    | none => none
  | .load t x => fun P T h => match ev T x with
    | some v => loadV P h t v
    | none => none
  | .nilCheck x => fun P T h => match ev T x with
    | some v => nilV v
    | none => none
  | .entry x => fun P T h => match ev T x with
    | some v => entryV h v
    | none => none
  | .lookup t x i ok => fun P T h => match ev T x, ev T i with
    | some u, some v => lookV P h t u v ok
    | _, _ => none
  | .binOp op t x y _ => fun P T h => match ev T x, ev T y with
    | some u, some v => binW P h op t u v
    | _, _ => none
  | .unOp op _ x => fun P T h => match ev T x with
    | some v => unV op v
    | none => none
  | .convert a b x => fun P T h => match ev T x with
    | some v => convV P a b v
    | none => none
  | .makeFunc (.func g) f c => fun P T h => match evs T f.toList, evs T c.toList with
    | some l, some m => some (.func (.func g) l.toArray m.toArray)
    | _, _ => none
  | .slice t x lo hi mx => fun P T h => match ev T x, evo T lo, evo T hi, evo T mx with
    | some v, some l, some hx, some m => sliceV P (leastV P h v) t v l hx m
    | _, _, _, _ => none
  | .fieldAddr t x f => fun P T h => match ev T x with
    | some v => fieldV P t f v
    | none => none
  | .field t x f => fun P T h => match ev T x with
    | some v => fieldOf P t f v
    | none => none
  | .indexAddr t x i => fun P T h => match ev T x, ev T i with
    | some v, some j => indexAddrV P t v j
    | _, _ => none
  | .index t x i => fun P T h => match ev T x, ev T i with
    | some v, some j => indexV P t v j
    | _, _ => none
  | .extract x i => fun P T h => match ev T x with
    | some v => extractV i v
    | none => none
  | .makeInterface t x => fun P T h => match ev T x with
    | some v => if P.concrete t then some (.iface t v) else none
    | none => none
  | .typeAssert x _ a ok => fun P T h => match ev T x with
    | some v => assertV P a ok v
    | none => none
  | .call c => fun P T h => match c.callee with
    | .builtin b => match evs T c.args.toList with
      | some l => quietB P b c.argTypes h l
      | none => none
    | _ => none
  | _ => fun P T h => none
theorem quietD_eq (P : Program) (o : Op) (T : Tr Value) (h : Tr AObj) : quietD o P T h = quiet P o T h := by
  cases o <;> first | rfl | (rename_i fn f c; cases fn <;> rfl)
set_option linter.unusedVariables false in
def allocD : Op → Program → Tr Value → Nat → Option (Value × AObj) := fun o => match o with
  | .alloc e => fun P T x => match zeroOf P e with
    | some (z, _, _) => some (.pointer (some ⟨x, 0, none⟩), rowOf z e)
    | none => match zeroC P e with
      | some z => some (.pointer (some ⟨x, 0, none⟩), rowOf z e)
      | none => none
  | .makeChan t l => fun P T x => match P.underlying t, ev T l with
    | some (.chan _ e), some (.int _ n) => match P.info? e with
      | some i => if 0 ≤ n ∧ n ≤ 9223372036854775807 ∧ (i.bytes : Int) * n ≤ 281474976710544 then some (.float .f32 (x + 1), .chan n.toNat []) else none
      | none => none
    | _, _ => none
  | .box e v => fun P T x => match ev T v with
    | some u => some (.pointer (some ⟨x, 0, none⟩), rowOf u.cells.toList e)
    | none => none
  | .buildSlice t len ps => fun P T x => match P.underlying t, evParts T ps.toList with
    | some (.slice e), some l => match zeroOf P e with
      | some (z, n, _) => if len * n > 2 ^ 24 ∨ grownMark ≤ len then none else
        match Instr.fill (fun i => some (i * n, n)) ((Array.range (len * n)).map (z.toArray[· % z.toArray.size]!)) l with
        | some cells => some (.slice (some ⟨x, 0, none⟩) len len, rowOf cells.toList e)
        | none => none
      | none => none
    | _, _ => none
  | .makeSlice t l c => fun P T x => match P.underlying t, ev T l, ev T c with
    | some (.slice e), some (.int _ l), some (.int _ c) => match zeroOf P e with
      | some (z, n, m) => if 0 ≤ l ∧ l ≤ c ∧ c.toNat * n ≤ 16777216 ∧ m * c ≤ 281474976710656 ∧ c ≤ 9223372036854775807 then some (.slice (some ⟨x, 0, none⟩) l.toNat c.toNat, rowOf (madeCells z.toArray (c.toNat * n)).toList e) else none
      | none => none
    | _, _, _ => none
  | .makeMap t r => fun P T x => match evo T r with
    | some none => some (.map (some x), .map [] 0)
    | some (some (.int _ _)) => match P.underlying t with
      | some (.map _ _) => some (.map (some x), .map [] 0)
      | _ => none
    | _ => none
  | _ => fun P T x => none
theorem allocD_eq (P : Program) (o : Op) (T : Tr Value) (x : Nat) : allocD o P T x = allocV P o T x := by
  cases o <;> rfl
set_option linter.unusedVariables false in
def effD : Op → CallF → Program → Tr Value → St → Option (List (Value × St)) := fun o => match o with
  | .store t x y => fun call P T s => match ev T x, ev T y with
    | some p, some v => match storeS P s t p v with
      | some s' => some [(.tuple #[], s')]
      | none => none
    | _, _ => none
  | .range t x => fun call P T s => match ev T x with
    | some m => ones (rangeS P s t m)
    | none => none
  | .next x false => fun call P T s => match ev T x with
    | some v => nextS s v
    | none => none
  | .mapUpdate t m k x => fun call P T s => match ev T m, ev T k, ev T x with
    | some m, some k, some v => match mupS P s t m k v with
      | some s' => some [(.tuple #[], s')]
      | none => none
    | _, _, _ => none
  | .mapEntry t m k => fun call P T s => match ev T m, ev T k with
    | some m, some k => ones (entS P s t m k)
    | _, _ => none
  | .entryStore _ m p x => fun call P T s => match ev T m, ev T p, ev T x with
    | some m, some p, some v => match estS s m p v with
      | some s' => some [(.tuple #[], s')]
      | none => none
    | _, _, _ => none
  | .call c => fun call P T s => match c.callee with
    | .builtin b => match b, evs T c.args.toList with
      | .delete, some [v, u] => ones (delS P s c.argTypes.toList v u)
      | .append, some [v, u] => ones (if isOpq u then appendO P s c.argTypes.toList v u else appendS P s c.argTypes.toList v u)
      | .copy, some [v, u] => ones (copyS P s c.argTypes.toList v u)
      | .clear, some [v] => ones (clearS P s c.argTypes.toList v)
      | _, _ => none
    | .value f => match ev T f, evs T c.args.toList with
      | some (.func (.func g) first captured), some l => if enters P g then call (.func g) (first.toList ++ l ++ captured.toList) s else if isCmp P g then match first.toList ++ l ++ captured.toList with
          | [.string a, .string b] => some [(.int .i64 (Lib.compareBytes a.data.toList b.data.toList), s)]
          | _ => none
        else none
      | some (.func (.yield x) _ _), some l => call (.yield x) l s
      | _, _ => none
    | .invoke r name => match ev T r, evs T c.args.toList with
      | some (.iface t v), some l => match methodV P t name with
        | some g => if enters P g then call (.func g) (v :: l) s else none
        | none => none
      | _, _ => none
  | _ => fun call P T s => none
theorem effD_eq (call : CallF) (P : Program) (o : Op) (T : Tr Value) (s : St) : effD o call P T s = effS call P o T s := by
  cases o <;> first | rfl | (rename_i x b; cases b <;> rfl)
def effG (call : CallF) (P : Program) (o : Op) (T : Tr Value) (s : St) : Option (Value × St) := match effD o call P T s with
  | some L => forceM L
  | none => none
theorem effG_eq (call : CallF) (P : Program) (o : Op) (T : Tr Value) (s : St) : effG call P o T s = effF call P o T s := by
  unfold effG effF
  rw [effD_eq]
  cases effS call P o T s <;> rfl
def opE (call : CallF) (P : Program) (o : Op) (T : Tr Value) (s : St) : Option (List (Value × St)) := match allocD o P T s.next with
  | some (v, ob) => some [(v, ⟨s.next + 1, s.h.set 40 s.next (some ob)⟩)]
  | none => effD o call P T s
def opD (call : CallF) (P : Program) (o : Op) (T : Tr Value) (s : St) : Option (List (Value × St)) :=
  match quietD o P T s.h with
  | some v => some [(v, s)]
  | none => opE call P o T s
theorem opD_eq (call : CallF) (P : Program) (o : Op) (T : Tr Value) (s : St) : opD call P o T s = opS call P o T s := by
  unfold opD opE opS
  rw [quietD_eq, allocD_eq, effD_eq]
  rfl
/-- One operation, and what follows. -/
def seqStep (call : CallF) (P : Program) (N : Nat) (ops : Array Oper) (ih : Tr Value → St → Option (List (Tr Value × St))) (o : Oper) (T : Tr Value) (s : St) : Option (List (Tr Value × St)) :=
  match wants ops T o with
  | some true => match opD call P o.op T s with
    | some [x] => match putT N T o.dst x.1 with
      | some T' => ih T' x.2
      | none => none
    | some L => match putAll N T o.dst L with
      | some l => bindL (fun x => ih x.1 x.2) l
      | none => none
    | none => none
  | some false => match putT N T o.dst (.tuple #[]) with
    | some T' => ih T' s
    | none => none
  | none => none
def seqD (call : CallF) (P : Program) (N : Nat) (ops : Array Oper) (l : List Oper) : Tr Value → St → Option (List (Tr Value × St)) :=
  @List.rec Oper (fun _ => Tr Value → St → Option (List (Tr Value × St))) (fun T s => some [(T, s)]) (fun o _ ih T s => seqStep call P N ops ih o T s) l
theorem seqD_eq (call : CallF) (P : Program) (N : Nat) (ops : Array Oper) : ∀ (l : List Oper) (T : Tr Value) (s : St), seqD call P N ops l T s = seqS call P N ops l T s
  | [], _, _ => rfl
  | o :: r, T, s => by
    have ih : seqD call P N ops r = seqS call P N ops r := by
      funext T s
      exact seqD_eq call P N ops r T s
    show seqStep call P N ops (seqD call P N ops r) o T s = _
    rw [ih]
    conv => rhs; unfold seqS
    unfold seqStep stepS
    rw [opD_eq]
    cases wants ops T o with
    | none => rfl
    | some b =>
      cases b with
      | false =>
        simp only []
        cases putT N T o.dst (.tuple #[]) <;> rfl
      | true =>
        simp only []
        cases opS call P o.op T s with
        | none => rfl
        | some L =>
          match L with
          | [] => rfl
          | [x] =>
            simp only [putAll]
            cases putT N T o.dst x.1 <;> rfl
          | x :: y :: r' => rfl
abbrev PassR := Nat → Tr Value → List St → St → List Nat → Tr Rec → Option (Tr Value × List St × St × List Nat × Tr Rec)
def passPut (N : Nat) (ih : PassR) (o : Oper) (i : Nat) (T : Tr Value) (all : List St) (cur : St) (E : List Nat) (R : Tr Rec) (v : Value) (rec : Rec) : Option (Tr Value × List St × St × List Nat × Tr Rec) := match putT N T o.dst v with
  | some T' => ih (i + 1) T' all cur E (R.set 40 i (some rec))
  | none => none
def passEff (call : CallF) (P : Program) (N : Nat) (ops : Array Oper) (M : List Nat) (n0 : Nat) (ih : PassR) (o : Oper) (i : Nat) (T : Tr Value) (all : List St) (cur : St) (E : List Nat) (R : Tr Rec) : Option (Tr Value × List St × St × List Nat × Tr Rec) :=
  if E.all (fun e => (M.getD i 0).testBit e) then
    match effG call P o.op T ⟨cur.next, rowsOf R n0 (fun l => (M.getD i 0).testBit l && !matd E M l) (rng ops i) cur.h⟩ with
    | some (v, s') => passPut N ih o i T (all ++ [s']) s' (E ++ [i]) R v (.eff v)
    | none => none
  else none
def passAlc (P : Program) (N : Nat) (n0 : Nat) (ih : PassR) (o : Oper) (i : Nat) (T : Tr Value) (all : List St) (cur : St) (E : List Nat) (R : Tr Rec) : Option (Tr Value × List St × St × List Nat × Tr Rec) :=
  match allocD o.op P T (n0 + i) with
  | some (v, ob) => passPut N ih o i T all cur E R v (.alc v ob)
  | none => none
def passDo (call : CallF) (P : Program) (N : Nat) (ops : Array Oper) (M : List Nat) (n0 : Nat) (ih : PassR) (o : Oper) (i : Nat) (T : Tr Value) (all : List St) (cur : St) (E : List Nat) (R : Tr Rec) : Option (Tr Value × List St × St × List Nat × Tr Rec) :=
  if isAlloc o.op then passAlc P N n0 ih o i T all cur E R
  else match quietD o.op P T cur.h with
    | some v => passPut N ih o i T all cur E R v (.val v)
    | none => passEff call P N ops M n0 ih o i T all cur E R
def passStep (call : CallF) (P : Program) (N : Nat) (ops : Array Oper) (M : List Nat) (n0 : Nat) (ih : PassR) (o : Oper) (i : Nat) (T : Tr Value) (all : List St) (cur : St) (E : List Nat) (R : Tr Rec) : Option (Tr Value × List St × St × List Nat × Tr Rec) :=
  match wants ops T o with
  | some false => passPut N ih o i T all cur E R (.tuple #[]) (.val (.tuple #[]))
  | some true => passDo call P N ops M n0 ih o i T all cur E R
  | none => none
def passD (call : CallF) (P : Program) (N : Nat) (ops : Array Oper) (M : List Nat) (n0 : Nat) (l : List Oper) : PassR :=
  @List.rec Oper (fun _ => PassR) (fun _ T all cur E R => some (T, all, cur, E, R)) (fun o _ ih i T all cur E R => passStep call P N ops M n0 ih o i T all cur E R) l
theorem passD_eq (call : CallF) (P : Program) (N : Nat) (ops : Array Oper) (M : List Nat) (n0 : Nat) : ∀ (l : List Oper) (i : Nat) (T : Tr Value) (all : List St) (cur : St) (E : List Nat) (R : Tr Rec), passD call P N ops M n0 l i T all cur E R = passS call P N ops M n0 l i T all cur E R
  | [], _, _, _, _, _, _ => rfl
  | o :: r, i, T, all, cur, E, R => by
    have ih : passD call P N ops M n0 r = passS call P N ops M n0 r := by
      funext i T all cur E R
      exact passD_eq call P N ops M n0 r i T all cur E R
    show passStep call P N ops M n0 (passD call P N ops M n0 r) o i T all cur E R = _
    rw [ih]
    conv => rhs; unfold passS
    unfold passStep passDo passEff passAlc passPut
    rw [quietD_eq, allocD_eq]
    simp only [effG_eq]
    cases wants ops T o with
    | none => rfl
    | some b =>
      cases b with
      | false => cases putT N T o.dst (.tuple #[]) <;> rfl
      | true =>
        cases isAlloc o.op with
        | true =>
          simp only [if_true]
          cases allocV P o.op T (n0 + i) with
          | none => rfl
          | some x => cases hx : putT N T o.dst x.1 <;> simp [hx]
        | false =>
          simp only [Bool.false_eq_true, if_false]
          cases quiet P o.op T cur.h with
          | some v => cases hx : putT N T o.dst v <;> simp [hx]
          | none =>
            simp only []
            split
            · cases effF call P o.op T ⟨cur.next, rowsOf R n0 (fun l => (M.getD i 0).testBit l && !matd E M l) (rng ops i) cur.h⟩ with
              | none => rfl
              | some x => cases hx : putT N T o.dst x.1 <;> simp [hx]
            · rfl
def drawD (P : Program) : DrawF := fun call N ops T s =>
  match statS ops with
  | some (M, _) => if P.follows .mixedOrders then
    match passD call P N ops M s.next ops.toList 0 T [⟨s.next + ops.size, s.h⟩] ⟨s.next + ops.size, s.h⟩ [] .leaf with
    | some (T', all, cur, E, R) => if passT P ops M all E R ops.toList 0 T then some (T', ⟨cur.next, rowsOf R s.next (fun l => !matd E M l) (rng ops ops.size) cur.h⟩) else none
    | none => none
    else none
  | none => none
theorem drawD_eq (P : Program) : drawD P = drawS P := by
  funext call N ops T s
  unfold drawD drawS
  simp only [passD_eq]
  rfl
abbrev CodeR := List Nat → Code → Tr Value → St → Option (List (Ex × Tr Value × St))
set_option linter.unusedVariables false in
def codeStep : Code → DrawF → CallF → Program → Nat → Option Nat → Nat → CodeR → List Nat → Tr Value → St → Option (List (Ex × Tr Value × St)) := fun c => match c with
  | .skip => fun draw call P N rd fu ih rp T s => some [(.normal, T, s)]
  | .region _ ops false => fun draw call P N rd fu ih rp T s => match seqD call P N ops ops.toList T s with
    | some l => some (l.map fun x => (.normal, x.1, x.2))
    | none => none
  | .region _ ops true => fun draw call P N rd fu ih rp T s => match draw call N ops T s with
    | some (T', s') => some [(.normal, T', s')]
    | none => none
  | .seq x y => fun draw call P N rd fu ih rp T s => match ih (0 :: rp) x T s with
    | some l => bindL (fun r => match r.1 with
      | .normal => ih (1 :: rp) y r.2.1 r.2.2
      | _ => some [r]) l
    | none => none
  | .cond c x y => fun draw call P N rd fu ih rp T s => match ev T c with
    | some (.bool true) => ih (0 :: rp) x T s
    | some (.bool false) => ih (1 :: rp) y T s
    | some (.func (.method _) _ _) => match c with
      | .tmp t => match ih (0 :: rp) x (T.set 40 t (some (.bool true))) s, ih (1 :: rp) y (T.set 40 t (some (.bool false))) s with
        | some l, some m => some (l ++ m)
        | _, _ => none
      | _ => none
    | _ => none
  | .block id x => fun draw call P N rd fu ih rp T s => match ih (0 :: rp) x T s with
    | some l => some (l.map (leave id))
    | none => none
  | .loop x => fun draw call P N rd fu ih rp T s => match ih (0 :: rp) x T s with
    | some l => bindL (fun r => match r.1 with
      | .normal => ih rp (.loop x) r.2.1 r.2.2
      | _ => some [r]) l
    | none => none
  | .scope x => fun draw call P N rd fu ih rp T s => ih (0 :: rp) x T s
  | .label _ => fun draw call P N rd fu ih rp T s => some [(.normal, T, s)]
  | .exit id => fun draw call P N rd fu ih rp T s => some [(.exit id, T, s)]
  | .ret => fun draw call P N rd fu ih rp T s => some [(.ret, T, s)]
  | .rangeFunc g _ _ _ => fun draw call P N rd fu ih rp T s => match ev T g with
    | some (.func (.func f) first captured) => if enters P f && roundOK rd s.h then
        match call (.func f) (first.toList ++ [.func (.yield s.next) #[] #[]] ++ captured.toList) ⟨s.next + 1, s.h.set 40 s.next (some (.loop 0 .normal T fu rp))⟩ with
        | some L => bindL (fun x => ones (popS s.next T x.2)) L
        | none => none
      else none
    | _ => none
  | _ => fun draw call P N rd fu ih rp T s => none
def codeD (draw : DrawF) (call : CallF) (P : Program) (N : Nat) (rd : Option Nat) (fu : Nat) (k : Nat) : CodeR :=
  @Nat.rec (fun _ => CodeR) (fun _ _ _ _ => none) (fun _ ih rp c T s => codeStep c draw call P N rd fu ih rp T s) k
theorem codeD_eq (draw : DrawF) (call : CallF) (P : Program) (N : Nat) (rd : Option Nat) (fu : Nat) : ∀ (k : Nat), codeD draw call P N rd fu k = codeS true draw call P N rd fu k
  | 0 => rfl
  | k + 1 => by
    have ih := codeD_eq draw call P N rd fu k
    funext rp c T s
    show codeStep c draw call P N rd fu (codeD draw call P N rd fu k) rp T s = _
    rw [ih]
    cases c with
    | region id ops d =>
      cases d with
      | false =>
        simp only [codeStep, codeS]
        rw [seqD_eq]
        rfl
      | true => rfl
    | rangeFunc g ps assign body =>
      simp only [codeStep, codeS, Bool.true_and]
      rfl
    | _ => rfl
def funcStep (ov : OvF) (draw : DrawF) (P : Program) (fuel : Nat) (ih : CallF) (f : Nat) (args : List Value) (s : St) : Option (List (Value × St)) :=
  match ov f args s with
  | some r => some [r]
  | none =>
  match P.funcs[f]? with
  | some fn => match fn.body with
    | some c =>
      if fn.ntmps < args.length then none else
      match codeD draw ih P fn.ntmps none f fuel [] c (args0 0 args) s with
      | some l => match bindL (fun r => ones (backS P fn r)) l with
        | some L => some (mergeL s.next L)
        | none => none
      | none => none
    | none => none
  | none => none
def yieldStep (draw : DrawF) (P : Program) (fuel : Nat) (ih : CallF) (x : Nat) (args : List Value) (s : St) : Option (List (Value × St)) :=
  match s.h.get x with
  | some (.loop 0 _ T f rp) => match loopAt P f rp with
    | some (N, ps, assign, body) => match setPs N T ps args with
      | some T1 => match codeD draw ih P N (some x) f fuel (0 :: rp) assign T1 s with
        | some l => match bindL (fun r => match r.1 with
          | .normal => (match r.2.2.h.get x with
            | some (.loop 0 pe Ta fa ra) => (match codeD draw ih P N (some x) f fuel (1 :: rp) body r.2.1 ⟨r.2.2.next, r.2.2.h.set 40 x (some (.loop 1 pe Ta fa ra))⟩ with
              | some l3 => bindL (fun q => ones (endRd q.2.2 x q.1)) l3
              | none => none)
            | _ => none)
          | _ => none) l with
          | some L => some (mergeL s.next L)
          | none => none
        | none => none
      | none => none
    | none => none
  | _ => none
def callStep (ov : OvF) (draw : DrawF) (P : Program) (fuel : Nat) (ih : CallF) : CallF := fun fn => match fn with
  | .func f => fun args s => funcStep ov draw P fuel ih f args s
  | .yield x => fun args s => yieldStep draw P fuel ih x args s
  | _ => fun _ _ => none
/-- The run, the quick way. -/
def funcD (ov : OvF) (P : Program) (fuel : Nat) (d : Nat) : CallF :=
  @Nat.rec (fun _ => CallF) (fun _ _ _ => none) (fun _ ih => callStep ov (drawD P) P fuel ih) d
theorem funcD_eq (ov : OvF) (P : Program) (fuel : Nat) : ∀ d : Nat, funcD ov P fuel d = funcS ov (drawS P) P fuel d
  | 0 => by funext a b c; rfl
  | d + 1 => by
    have ih := funcD_eq ov P fuel d
    funext fn args s
    show callStep ov (drawD P) P fuel (funcD ov P fuel d) fn args s = _
    rw [ih, drawD_eq]
    cases fn with
    | func f =>
      simp only [callStep, funcStep, funcS, codeD_eq]
      rfl
    | yield x =>
      simp only [callStep, yieldStep, funcS, codeD_eq]
      rfl
    | _ => rfl
theorem run_trueD {P : Program} {ov : OvF} (ext : Nat → Value) {w : World} (rd : Rds ext w) (hov : OvOK P (ctx0 ext w rd) ov) {fuel d f : Nat} {args : List Value} {args' : Array Value} (hargs : VRs (ctx0 ext w rd).σ args args'.toList) (h : isTrue (funcD ov P fuel d (.func f) args ⟨0, .leaf⟩) = true) :
    Calls P f args' w fun e w' => e = .returned (.bool true) ∧ Below w.heap.size w w' := by
  rw [funcD_eq] at h
  exact run_true (draw_ok P) ext rd hov hargs h
/-- A call without arguments, in any world. -/
theorem closed_trueD {P : Program} {fuel d f : Nat} (h : isTrue (funcD noOv P fuel d (.func f) [] ⟨0, .leaf⟩) = true) (w : World) : Calls P f #[] w fun e w' => e = .returned (.bool true) ∧ Below w.heap.size w w' :=
  run_trueD (fun _ => undef) (fun _ _ _ _ h => nomatch h) noOv_ok (VRs.nil _) h
theorem ovLit_okD {P : Program} {B : Ctx} {ov : OvF} (hov : OvOK P B ov) {fuel d : Nat} {L : Lit} (h : litOK L (funcD ov P fuel d (.func L.f) L.args L.s) = true) : OvOK P B (ovLit L) := by
  rw [funcD_eq] at h
  exact ovLit_ok (draw_ok P) hov h
end
end Go.Proofs.YtcllmbmgchhigaaGreat
