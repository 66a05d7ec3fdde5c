/- An abstract heap of rows by name, and when it stands for a world: the ground of a run that holds whatever order is drawn and however much room an append takes. -/
import Derived.Test.YtimlldedpbbeoaaGreatMM
import Derived.Orders
import Derived.Laws.Tables
import Derived.Laws.IdiomCopy
import Derived.Deep.MidRow
namespace Go.Proofs.YtimlldedpbbeoaaGreat
open Go.RowKit
noncomputable section

/-- A store of things by number. -/
inductive Tr (α : Type) where
  | leaf
  | node (v : Option α) (l r : Tr α)
/-- The way to a number's place. -/
def bitsF : Nat → Nat → List Bool
  | 0, _ => []
  | f + 1, k => match Nat.beq k 0 with
    | true => []
    | false => Nat.beq (Nat.mod k 2) 1 :: bitsF f (Nat.div (Nat.sub k 1) 2)
def bits (k : Nat) : List Bool := @Nat.rec (fun _ => Nat → List Bool) (fun _ => []) (fun _ ih k => @Bool.rec (fun _ => List Bool) (Nat.beq (Nat.mod k (nat_lit 2)) (nat_lit 1) :: ih (Nat.div (Nat.sub k (nat_lit 1)) (nat_lit 2))) [] (Nat.beq k (nat_lit 0))) k k
theorem bits_eq (k : Nat) : bits k = bitsF k k := by
  have key : ∀ f k, @Nat.rec (fun _ => Nat → List Bool) (fun _ => []) (fun _ ih k => @Bool.rec (fun _ => List Bool) (Nat.beq (Nat.mod k (nat_lit 2)) (nat_lit 1) :: ih (Nat.div (Nat.sub k (nat_lit 1)) (nat_lit 2))) [] (Nat.beq k (nat_lit 0))) f k = bitsF f k := by
    intro f
    induction f with
    | zero => intro k; rfl
    | succ f ih =>
      intro k
      unfold bitsF
      show @Bool.rec (fun _ => List Bool) _ [] (Nat.beq k 0) = _
      cases Nat.beq k 0 with
      | true => rfl
      | false => exact congrArg (_ :: ·) (ih _)
  exact key k k
theorem bitsF_inj : ∀ (f g k j : Nat), k ≤ f → j ≤ g → bitsF f k = bitsF g j → k = j
  | 0, 0, k, j, h1, h2, _ => by omega
  | 0, g + 1, k, j, h1, h2, h => by
    unfold bitsF at h
    split at h
    · rename_i hj
      have := Nat.eq_of_beq_eq_true hj
      omega
    · cases h
  | f + 1, 0, k, j, h1, h2, h => by
    unfold bitsF at h
    split at h
    · rename_i hj
      have := Nat.eq_of_beq_eq_true hj
      omega
    · cases h
  | f + 1, g + 1, k, j, h1, h2, h => by
    unfold bitsF at h
    split at h
    · rename_i hk
      have := Nat.eq_of_beq_eq_true hk
      split at h
      · rename_i hj
        have := Nat.eq_of_beq_eq_true hj
        omega
      · cases h
    · rename_i hk
      have hk := Nat.ne_of_beq_eq_false hk
      split at h
      · cases h
      · rename_i hj
        have hj := Nat.ne_of_beq_eq_false hj
        simp only [List.cons.injEq] at h
        have h3 := bitsF_inj f g _ _ (by show (k - 1) / 2 ≤ f; omega) (by show (j - 1) / 2 ≤ g; omega) h.2
        have h3 : (k - 1) / 2 = (j - 1) / 2 := h3
        have h4 := h.1
        have h5 : (k % 2 = 1) ↔ (j % 2 = 1) := by
          constructor
          · intro e
            have e : Nat.mod k 2 = 1 := e
            rw [e] at h4
            exact Nat.eq_of_beq_eq_true h4.symm
          · intro e
            have e : Nat.mod j 2 = 1 := e
            rw [e] at h4
            exact Nat.eq_of_beq_eq_true h4
        omega
theorem bits_inj {k j : Nat} (h : bits k = bits j) : k = j := bitsF_inj _ _ _ _ (Nat.le_refl _) (Nat.le_refl _) (by rw [bits_eq, bits_eq] at h; exact h)
namespace Tr
def getB {α : Type} : Tr α → List Bool → Option α
  | .leaf, _ => none
  | .node v _ _, [] => v
  | .node _ l _, true :: bs => l.getB bs
  | .node _ _ r, false :: bs => r.getB bs
def setB {α : Type} : List Bool → Tr α → Option α → Tr α
  | [], .leaf, v => .node v .leaf .leaf
  | [], .node _ l r, v => .node v l r
  | true :: bs, .leaf, v => .node none (setB bs .leaf v) .leaf
  | true :: bs, .node u l r, v => .node u (setB bs l v) r
  | false :: bs, .leaf, v => .node none .leaf (setB bs .leaf v)
  | false :: bs, .node u l r, v => .node u l (setB bs r v)
/-- The same by the recursors: much quicker in the kernel. -/
def getR {α : Type} (t : Tr α) : List Bool → Option α := @Tr.rec α (fun _ => List Bool → Option α) (fun _ => none) (fun v _ _ ihl ihr bs => @List.rec Bool (fun _ => Option α) v (fun b bs _ => @Bool.rec (fun _ => Option α) (ihr bs) (ihl bs) b) bs) t
def setR {α : Type} (v : Option α) (bs : List Bool) : Tr α → Tr α := @List.rec Bool (fun _ => Tr α → Tr α) (fun t => @Tr.rec α (fun _ => Tr α) (.node v .leaf .leaf) (fun _ l r _ _ => .node v l r) t)
  (fun b _ ih t => @Bool.rec (fun _ => Tr α) (@Tr.rec α (fun _ => Tr α) (.node none .leaf (ih .leaf)) (fun u l r _ _ => .node u l (ih r)) t) (@Tr.rec α (fun _ => Tr α) (.node none (ih .leaf) .leaf) (fun u l r _ _ => .node u (ih l) r) t) b) bs
theorem getR_eq {α : Type} : ∀ (t : Tr α) (bs : List Bool), getR t bs = getB t bs
  | .leaf, _ => rfl
  | .node _ _ _, [] => rfl
  | .node _ l _, true :: bs => getR_eq l bs
  | .node _ _ r, false :: bs => getR_eq r bs
theorem setR_eq {α : Type} (v : Option α) : ∀ (bs : List Bool) (t : Tr α), setR v bs t = setB bs t v
  | [], .leaf => rfl
  | [], .node _ _ _ => rfl
  | true :: bs, .leaf => congrArg (fun x => Tr.node none x .leaf) (setR_eq v bs .leaf)
  | true :: bs, .node u l r => congrArg (fun x => Tr.node u x r) (setR_eq v bs l)
  | false :: bs, .leaf => congrArg (fun x => Tr.node none .leaf x) (setR_eq v bs .leaf)
  | false :: bs, .node u l r => congrArg (fun x => Tr.node u l x) (setR_eq v bs r)
def get {α : Type} (t : Tr α) (k : Nat) : Option α := t.getR (bits k)
def set {α : Type} (_ : Nat) (t : Tr α) (k : Nat) (v : Option α) : Tr α := setR v (bits k) t
theorem get_leaf {α : Type} (k : Nat) : (Tr.leaf : Tr α).get k = none := rfl
theorem getB_setB {α : Type} : ∀ (bs : List Bool) (t : Tr α) (v : Option α) (cs : List Bool), (setB bs t v).getB cs = if cs = bs then v else t.getB cs
  | [], .leaf, v, cs => by cases cs with | nil => rfl | cons c cs => cases c <;> simp [setB, getB]
  | [], .node u l r, v, cs => by cases cs with | nil => rfl | cons c cs => cases c <;> simp [setB, getB]
  | true :: bs, .leaf, v, cs => by
    have ih := getB_setB bs (.leaf : Tr α) v
    cases cs with
    | nil => simp [setB, getB]
    | cons c cs =>
      cases c with
      | true => simp only [setB, getB, ih]; by_cases h : cs = bs <;> simp [h]
      | false => simp [setB, getB]
  | true :: bs, .node u l r, v, cs => by
    have ih := getB_setB bs l v
    cases cs with
    | nil => simp [setB, getB]
    | cons c cs =>
      cases c with
      | true => simp only [setB, getB, ih]; by_cases h : cs = bs <;> simp [h]
      | false => simp [setB, getB]
  | false :: bs, .leaf, v, cs => by
    have ih := getB_setB bs (.leaf : Tr α) v
    cases cs with
    | nil => simp [setB, getB]
    | cons c cs =>
      cases c with
      | false => simp only [setB, getB, ih]; by_cases h : cs = bs <;> simp [h]
      | true => simp [setB, getB]
  | false :: bs, .node u l r, v, cs => by
    have ih := getB_setB bs r v
    cases cs with
    | nil => simp [setB, getB]
    | cons c cs =>
      cases c with
      | false => simp only [setB, getB, ih]; by_cases h : cs = bs <;> simp [h]
      | true => simp [setB, getB]
theorem get_set {α : Type} (f : Nat) (t : Tr α) (k : Nat) (v : Option α) (j : Nat) : (t.set f k v).get j = if j = k then v else t.get j := by
  unfold get set
  rw [getR_eq, getR_eq, setR_eq, getB_setB]
  by_cases h : j = k
  · subst h; simp
  · rw [if_neg h, if_neg (fun e => h (bits_inj e))]
end Tr

/-- Where a name's row lies, and how many elements its slices have room for. -/
structure Sg where
  m : Nat → Option (Nat × Nat)
  ext : Nat → Value
instance : CoeFun Sg (fun _ => Nat → Option (Nat × Nat)) := ⟨Sg.m⟩
def grownMark : Nat := 18446744073709551616
def anyMark : Nat := 36893488147419103232
/-- A slice's room: known, or what the row's maker drew, less what was cut off ahead. -/
def CapR (c κ n c' : Nat) : Prop := if anyMark ≤ c then n = 0 else if grownMark ≤ c then c' + (c - grownMark) = κ else c' = c

/-- From how much to how much. -/
def lowOf (c : Nat) : Nat := c / 18446744073709551616
def highOf (c : Nat) : Nat := c % 18446744073709551616
def cls (lo hi : Nat) : Nat := lo * 18446744073709551616 + hi
/-- A value of names stands for a value of addresses: one that nobody knows (chan none), one from without (chan i), a number from lo to hi, less 2^63 (complex f64), a text of some length (float f64), a slice from without of some length (complex f32), a channel (float f32: 0 is nil, x + 1 is x), a bool that nobody knows (a method without a name). -/
inductive VR (σ : Sg) : Value → Value → Prop
  | bool (b : Bool) : VR σ (.bool b) (.bool b)
  | int (k : IntKind) (n : Int) : VR σ (.int k n) (.int k n)
  | string (s : ByteArray) : VR σ (.string s) (.string s)
  | nilp : VR σ (.pointer none) (.pointer none)
  | ptr (x o b c : Nat) (h : σ x = some (b, c)) : VR σ (.pointer (some ⟨x, o, none⟩)) (.pointer (some ⟨b, o, none⟩))
  | nils (n c : Nat) : VR σ (.slice none n c) (.slice none n c)
  | sl (x o n c b κ c' : Nat) (h : σ x = some (b, κ)) (hc : CapR c κ n c') (hn : c < anyMark) (hl : n ≤ c') : VR σ (.slice (some ⟨x, o, none⟩) n c) (.slice (some ⟨b, o, none⟩) n c')
  | empty (a a' : Addr) (c c' : Nat) (hc : anyMark ≤ c) : VR σ (.slice (some a) 0 c) (.slice (some a') 0 c')
  | nilm : VR σ (.map none) (.map none)
  | map (x b c : Nat) (h : σ x = some (b, c)) : VR σ (.map (some x)) (.map (some b))
  | func (g : FuncId) (f f' c c' : Array Value) (hf : f.size = f'.size) (hc : c.size = c'.size) (h1 : ∀ (i : Nat) (v v' : Value), f[i]? = some v → f'[i]? = some v' → VR σ v v') (h2 : ∀ (i : Nat) (v v' : Value), c[i]? = some v → c'[i]? = some v' → VR σ v v') : VR σ (.func (.func g) f c) (.func (.func g) f' c')
  | yield (x b κ : Nat) (h : σ x = some (b, κ)) : VR σ (.func (.yield x) #[] #[]) (.func (.yield b) #[] #[])
  | nilFunc : VR σ .nilFunc .nilFunc
  | iface (t : TypeId) (v v' : Value) (h : VR σ v v') : VR σ (.iface t v) (.iface t v')
  | nilIface : VR σ .nilIface .nilIface
  | any (v' : Value) (h : v'.oneCell' = true) : VR σ (.chan none) v'
  | ext (i : Nat) (h : (σ.ext i).oneCell' = true) : VR σ (.chan (some i)) (σ.ext i)
  | ivl (lo hi : Nat) (n : Int) (h1 : (lo : Int) ≤ n + 9223372036854775808) (h2 : n + 9223372036854775808 ≤ (hi : Int)) : VR σ (.complex .f64 lo hi) (.int .i64 n)
  | strc (c : Nat) (s : ByteArray) (h1 : lowOf c ≤ s.size) (h2 : s.size ≤ highOf c) : VR σ (.float .f64 c) (.string s)
  | slc (j c : Nat) (a : Option Addr) (n c' : Nat) (h : σ.ext j = .slice a n c') (h1 : lowOf c ≤ n) (h2 : n ≤ highOf c) : VR σ (.complex .f32 j c) (.slice a n c')
  | nilc : VR σ (.float .f32 0) (.chan none)
  | chanr (x b κ : Nat) (h : σ x = some (b, κ)) : VR σ (.float .f32 (x + 1)) (.chan (some b))
  | ub (b : Bool) : VR σ (.func (.method "") #[] #[]) (.bool b)
  | agg (c c' : Array Value) (hc : c.size = c'.size) (h : ∀ (i : Nat) (v v' : Value), c[i]? = some v → c'[i]? = some v' → VR σ v v') : VR σ (.agg c) (.agg c')
  | tuple (c c' : Array Value) (hc : c.size = c'.size) (h : ∀ (i : Nat) (v v' : Value), c[i]? = some v → c'[i]? = some v' → VR σ v v') : VR σ (.tuple c) (.tuple c')

/-- Rows of values. -/
def VRs (σ : Sg) (c c' : List Value) : Prop := c.length = c'.length ∧ ∀ (i : Nat) (v v' : Value), c[i]? = some v → c'[i]? = some v' → VR σ v v'
def Sg.le (σ τ : Sg) : Prop := (∀ x v, σ x = some v → τ x = some v) ∧ τ.ext = σ.ext
theorem Sg.le_refl (σ : Sg) : σ.le σ := ⟨fun _ _ h => h, rfl⟩
theorem Sg.le_trans {σ τ υ : Sg} (h : σ.le τ) (k : τ.le υ) : σ.le υ := ⟨fun x v q => k.1 x v (h.1 x v q), k.2.trans h.2⟩
theorem VR.mono {σ τ : Sg} (h : σ.le τ) {v v' : Value} (q : VR σ v v') : VR τ v v' := by
  induction q with
  | bool b => exact .bool b
  | int k n => exact .int k n
  | string s => exact .string s
  | nilp => exact .nilp
  | ptr x o b c hx => exact .ptr x o b c (h.1 _ _ hx)
  | nils n c => exact .nils n c
  | sl x o n c b κ c' hx hc hn hl => exact .sl x o n c b κ c' (h.1 _ _ hx) hc hn hl
  | empty a a' c c' hc => exact .empty a a' c c' hc
  | nilm => exact .nilm
  | map x b c hx => exact .map x b c (h.1 _ _ hx)
  | func g f f' c c' hf hc _ _ i1 i2 => exact .func g f f' c c' hf hc i1 i2
  | yield x b κ hx => exact .yield x b κ (h.1 _ _ hx)
  | nilFunc => exact .nilFunc
  | iface t v v' _ ih => exact .iface t v v' ih
  | nilIface => exact .nilIface
  | any v' h => exact .any v' h
  | ext i hi =>
    rw [← h.2] at hi ⊢
    exact .ext i hi
  | ivl lo hi n h1 h2 => exact .ivl lo hi n h1 h2
  | strc c s h1 h2 => exact .strc c s h1 h2
  | slc j c a n c' hj h1 h2 => exact .slc j c a n c' (by rw [h.2]; exact hj) h1 h2
  | nilc => exact .nilc
  | chanr x b κ hx => exact .chanr x b κ (h.1 _ _ hx)
  | ub b => exact .ub b
  | agg c c' hc _ ih => exact .agg c c' hc ih
  | tuple c c' hc _ ih => exact .tuple c c' hc ih
theorem VRs.mono {σ τ : Sg} (h : σ.le τ) {v v' : List Value} (q : VRs σ v v') : VRs τ v v' := ⟨q.1, fun i v v' a b => (q.2 i v v' a b).mono h⟩
theorem VRs.nil (σ : Sg) : VRs σ [] [] := ⟨rfl, fun i v v' h => by simp at h⟩
theorem VRs.cons {σ : Sg} {v v' : Value} {c c' : List Value} (h : VR σ v v') (k : VRs σ c c') : VRs σ (v :: c) (v' :: c') := by
  refine ⟨by simp [k.1], fun i u u' a b => ?_⟩
  cases i with
  | zero => simp at a b; subst a b; exact h
  | succ i => exact k.2 i u u' (by simpa using a) (by simpa using b)
theorem VRs.uncons {σ : Sg} {v : Value} {c d : List Value} (h : VRs σ (v :: c) d) : ∃ v' c', d = v' :: c' ∧ VR σ v v' ∧ VRs σ c c' := by
  cases d with
  | nil => simp [VRs] at h
  | cons v' c' => exact ⟨v', c', rfl, h.2 0 v v' (by simp) (by simp), by have := h.1; simpa using this, fun i u u' a b => h.2 (i + 1) u u' (by simpa using a) (by simpa using b)⟩
theorem VRs.append {σ : Sg} {a a' b b' : List Value} (h : VRs σ a a') (k : VRs σ b b') : VRs σ (a ++ b) (a' ++ b') := by
  refine ⟨by simp [h.1, k.1], fun i v v' p q => ?_⟩
  rw [List.getElem?_append] at p q
  by_cases hi : i < a.length
  · rw [if_pos hi] at p
    rw [if_pos (h.1 ▸ hi)] at q
    exact h.2 i v v' p q
  · rw [if_neg hi] at p
    rw [if_neg (h.1 ▸ hi)] at q
    rw [← h.1] at q
    exact k.2 _ v v' p q
theorem VRs.get {σ : Sg} {c c' : List Value} (h : VRs σ c c') {i : Nat} {v : Value} (hi : c[i]? = some v) : ∃ v', c'[i]? = some v' ∧ VR σ v v' := by
  have hl : i < c'.length := by
    have := (List.getElem?_eq_some_iff.1 hi).1
    rw [← h.1]; exact this
  exact ⟨c'[i], List.getElem?_eq_getElem hl, h.2 i v _ hi (List.getElem?_eq_getElem hl)⟩
theorem VRs.drop {σ : Sg} {c c' : List Value} (h : VRs σ c c') (n : Nat) : VRs σ (c.drop n) (c'.drop n) := by
  refine ⟨by simp [h.1], fun i v v' p q => ?_⟩
  rw [List.getElem?_drop] at p q
  exact h.2 _ v v' p q
theorem VRs.take {σ : Sg} {c c' : List Value} (h : VRs σ c c') (n : Nat) : VRs σ (c.take n) (c'.take n) := by
  refine ⟨by simp [h.1], fun i v v' p q => ?_⟩
  rw [List.getElem?_take] at p q
  split at p
  · rw [if_pos ‹_›] at q
    exact h.2 _ v v' p q
  · cases p
theorem VRs.set {σ : Sg} {c c' : List Value} (h : VRs σ c c') (n : Nat) {v v' : Value} (hv : VR σ v v') : VRs σ (c.set n v) (c'.set n v') := by
  refine ⟨by simp [h.1], fun i u u' p q => ?_⟩
  rw [List.getElem?_set] at p q
  split at p
  · rename_i hn
    subst hn
    rw [if_pos rfl] at q
    split at p
    · rw [if_pos (h.1 ▸ ‹_›)] at q
      cases p; cases q; exact hv
    · cases p
  · rw [if_neg ‹_›] at q
    exact h.2 _ u u' p q
theorem vrs_arr {σ : Sg} {c c' : Array Value} : VRs σ c.toList c'.toList ↔ (c.size = c'.size ∧ ∀ (i : Nat) (v v' : Value), c[i]? = some v → c'[i]? = some v' → VR σ v v') := by
  simp [VRs]
theorem VR.agg' {σ : Sg} {c c' : List Value} (h : VRs σ c c') : VR σ (.agg c.toArray) (.agg c'.toArray) := .agg _ _ (by simpa using h.1) (fun i v v' a b => h.2 i v v' (by simpa using a) (by simpa using b))
theorem VR.tuple' {σ : Sg} {c c' : List Value} (h : VRs σ c c') : VR σ (.tuple c.toArray) (.tuple c'.toArray) := .tuple _ _ (by simpa using h.1) (fun i v v' a b => h.2 i v v' (by simpa using a) (by simpa using b))
theorem VR.of_agg {σ : Sg} {c : Array Value} {v' : Value} (h : VR σ (.agg c) v') : ∃ c', v' = .agg c' ∧ VRs σ c.toList c'.toList := by
  cases h with
  | agg _ c' hc h => exact ⟨c', rfl, vrs_arr.2 ⟨hc, h⟩⟩
theorem VR.of_tuple {σ : Sg} {c : Array Value} {v' : Value} (h : VR σ (.tuple c) v') : ∃ c', v' = .tuple c' ∧ VRs σ c.toList c'.toList := by
  cases h with
  | tuple _ c' hc h => exact ⟨c', rfl, vrs_arr.2 ⟨hc, h⟩⟩
theorem VR.one {σ : Sg} {v v' : Value} (h : VR σ v v') : v'.oneCell' = v.oneCell' := by cases h <;> first | rfl | assumption
theorem VR.cells {σ : Sg} {v v' : Value} (h : VR σ v v') : VRs σ v.cells.toList v'.cells.toList := by
  have one : ∀ {u u' : Value}, VR σ u u' → VRs σ [u] [u'] := fun q => VRs.cons q (VRs.nil σ)
  cases h with
  | agg c c' hc h => exact vrs_arr.2 ⟨hc, h⟩
  | bool => exact one (.bool _)
  | int => exact one (.int _ _)
  | string => exact one (.string _)
  | nilp => exact one .nilp
  | ptr _ _ _ _ h => exact one (.ptr _ _ _ _ h)
  | nils => exact one (.nils _ _)
  | sl _ _ _ _ _ _ _ h hc hn hl => exact one (.sl _ _ _ _ _ _ _ h hc hn hl)
  | empty _ _ _ _ h => exact one (.empty _ _ _ _ h)
  | nilm => exact one .nilm
  | map _ _ _ h => exact one (.map _ _ _ h)
  | func _ _ _ _ _ a b c d => exact one (.func _ _ _ _ _ a b c d)
  | yield _ _ _ h => exact one (.yield _ _ _ h)
  | nilFunc => exact one .nilFunc
  | iface _ _ _ h => exact one (.iface _ _ _ h)
  | nilIface => exact one .nilIface
  | any v' h =>
    have : v'.cells = #[v'] := by cases v' <;> first | rfl | cases h
    rw [this]
    exact one (.any v' h)
  | ext i h =>
    have : (σ.ext i).cells = #[σ.ext i] := by
      generalize σ.ext i = v' at h
      cases v' <;> first | rfl | cases h
    rw [this]
    exact one (.ext i h)
  | ivl lo hi n h1 h2 => exact one (.ivl lo hi n h1 h2)
  | strc c s h1 h2 => exact one (.strc c s h1 h2)
  | slc j c a n c' h h1 h2 => exact one (.slc j c a n c' h h1 h2)
  | nilc => exact one .nilc
  | chanr x b κ hx => exact one (.chanr x b κ hx)
  | ub b => exact one (.ub b)
  | tuple _ _ a b => exact one (.tuple _ _ a b)

/-- How a piece of code ends. -/
inductive Ex where
  | normal
  | exit (id : Nat)
  | ret
def Ex.pend : Ex → Option Code
  | .normal => none
  | .exit id => some (.exit id)
  | .ret => some .ret
/-- A part of a code; the part at a place (the way to it, last step first). -/
def kid : Code → Nat → Option Code
  | .seq x _, 0 => some x
  | .seq _ y, 1 => some y
  | .cond _ x _, 0 => some x
  | .cond _ _ y, 1 => some y
  | .block _ x, 0 => some x
  | .loop x, 0 => some x
  | .scope x, 0 => some x
  | .rangeFunc _ _ assign _, 0 => some assign
  | .rangeFunc _ _ _ body, 1 => some body
  | _, _ => none
def codeAt (root : Code) : List Nat → Option Code
  | [] => some root
  | i :: r => match codeAt root r with
    | some c => kid c i
    | none => none
/-- The loop over a function that stands at a place of a function. -/
def loopAt (P : Program) (f : Nat) (rp : List Nat) : Option (Nat × List Nat × Code × Code) :=
  match P.funcs[f]? with
  | some fn => match fn.body with
    | some root => match codeAt root rp with
      | some (.rangeFunc _ ps assign body) => some (fn.ntmps, ps.toList, assign, body)
      | _ => none
    | none => none
  | none => none
/-- What stands behind a name: a row of cells; of how many cells the true row is (none: as many as the room that was drawn asks). -/
inductive AObj where
  | row (cs : List Value) (elem : TypeId) (room : Option Nat)
  | map (es : List MapEntry) (clock : Nat)
  | iter (m : Option Nat) (since : Nat) (seen : List Nat) (last : Nat)
  | chan (cap : Nat) (buf : List Value)
  | loop (st : Nat) (pend : Ex) (T : Tr Value) (f : Nat) (rp : List Nat)
def stOf : Nat → LoopState
  | 0 => .ready
  | 1 => .busy
  | 2 => .done
  | _ => .exhausted
structure St where
  next : Nat
  h : Tr AObj
def ObjR (P : Program) (σ : Sg) (κ : Nat) : AObj → Option Obj → Prop
  | .row cs e room, o => ∃ cur : Array Value, o = some (.cells cur e (0, 0)) ∧ cs.length ≤ cur.size ∧ VRs σ cs (cur.toList.take cs.length) ∧ κ ≤ maxLen ∧ (match room with | some r => cur.size = r | none => cur.size = κ * P.cellsOf e)
  | .map es clock, o => ∃ es' : Array MapEntry, o = some (.map es' clock) ∧ es.length = es'.size ∧ ∀ (i : Nat) (x x' : MapEntry), es[i]? = some x → es'[i]? = some x' → VR σ x.key x'.key ∧ VR σ x.val x'.val ∧ x'.born = x.born
  | .iter m since seen last, o => ∃ m' : Option Nat, o = some (.mapIter m' since seen.toArray last) ∧ (match m with | none => m' = none | some x => ∃ b κ', m' = some b ∧ σ x = some (b, κ'))
  | .chan cap buf, o => ∃ (buf' : Array Value) (s r : Nat), o = some (.chan cap buf' false s r false) ∧ VRs σ buf buf'.toList
  | .loop st pend T f rp, o => ∃ (L : Loop) (N : Nat) (ps : List Nat) (assign body : Code), o = some (.loop L) ∧ loopAt P f rp = some (N, ps, assign, body) ∧ L.state = stOf st ∧ L.pending = pend.pend ∧ L.params.toList = ps ∧ L.assign = assign ∧ L.body = body ∧ L.tmps.size = N ∧ ∀ t v, T.get t = some v → ∃ v', L.tmps[t]? = some v' ∧ VR σ v v'
theorem ObjR.mono {P : Program} {σ τ : Sg} (h : σ.le τ) {κ : Nat} {a : AObj} {o : Option Obj} (q : ObjR P σ κ a o) : ObjR P τ κ a o := by
  cases a with
  | row cs e room => obtain ⟨cur, h1, h2, h3, h4⟩ := q; exact ⟨cur, h1, h2, h3.mono h, h4⟩
  | map es clock => obtain ⟨es', h1, h2, h3⟩ := q; exact ⟨es', h1, h2, fun i x x' a b => let ⟨q1, q2, q3⟩ := h3 i x x' a b; ⟨q1.mono h, q2.mono h, q3⟩⟩
  | iter m since seen last =>
    obtain ⟨m', h1, h2⟩ := q
    refine ⟨m', h1, ?_⟩
    cases m with
    | none => exact h2
    | some x => obtain ⟨b, κ', h3, h4⟩ := h2; exact ⟨b, κ', h3, h.1 _ _ h4⟩
  | chan cap buf => obtain ⟨buf', s, r, h1, h2⟩ := q; exact ⟨buf', s, r, h1, h2.mono h⟩
  | loop st pend T f rp => obtain ⟨L, N, ps, assign, body, h1, h0, h2, h3, h4, h5, h6, h7, h8⟩ := q; exact ⟨L, N, ps, assign, body, h1, h0, h2, h3, h4, h5, h6, h7, fun t v hv => let ⟨v', q1, q2⟩ := h8 t v hv; ⟨v', q1, q2.mono h⟩⟩
/-- A slice from without, of elements of one cell, can be read. -/
def Opq (w : World) (a : Option Addr) (n : Nat) : Prop := n = 0 ∨ ∃ g o, a = some ⟨g, o, none⟩ ∧ g < w.heap.size ∧ ∃ cs : List Value, cs.length = n ∧ (∀ u ∈ cs, u.oneCell' = true) ∧ ∀ j u, cs[j]? = some u → w.cell? ⟨g, o + j, none⟩ = some u
/-- The world and the names that a run began with. -/
structure Ctx where
  w : World
  σ : Sg
  rd : ∀ (j : Nat) (a : Option Addr) (n c : Nat), σ.ext j = .slice a n c → Opq w a n
/-- The abstract heap stands for the world. -/
structure Inv (P : Program) (B : Ctx) (σ : Sg) (s : St) (w : World) : Prop where
  base : Below B.w.heap.size B.w w
  own : B.σ.le σ
  dom : ∀ x, s.next ≤ x → σ x = none
  live : ∀ x o, s.h.get x = some o → ∃ b κ, σ x = some (b, κ) ∧ B.w.heap.size ≤ b ∧ ObjR P σ κ o (w.heap[b]?)
  inj : ∀ x y o o' b κ κ', s.h.get x = some o → s.h.get y = some o' → σ x = some (b, κ) → σ y = some (b, κ') → x = y
/-- The blocks that the abstract heap speaks of. -/
def Foot (σ : Sg) (s : St) : Nat → Prop := fun b => ∃ x o κ, s.h.get x = some o ∧ σ x = some (b, κ)
structure Stp (P : Program) (B : Ctx) (σ : Sg) (s : St) (w : World) (τ : Sg) (t : St) (w' : World) : Prop where
  inv : Inv P B τ t w'
  old : ∀ x, x < s.next → τ x = σ x
  nle : s.next ≤ t.next
  fr : Fr (Foot σ s) w w'
  sub : ∀ b, b < w.heap.size → Foot τ t b → Foot σ s b
  keep : ∀ x, x < s.next → s.h.get x = none → t.h.get x = none
  ext : τ.ext = σ.ext
theorem Stp.le {P : Program} {B : Ctx} {σ τ : Sg} {s t : St} {w w' : World} (hi : Inv P B σ s w) (h : Stp P B σ s w τ t w') : σ.le τ := by
  refine ⟨fun x v q => ?_, h.ext⟩
  by_cases hx : x < s.next
  · rw [h.old x hx]; exact q
  · rw [hi.dom x (by omega)] at q; cases q
theorem Stp.refl {P : Program} {B : Ctx} {σ : Sg} {s : St} {w : World} (hi : Inv P B σ s w) : Stp P B σ s w σ s w := ⟨hi, fun _ _ => rfl, Nat.le_refl _, Fr.refl _ _, fun _ _ h => h, fun _ _ h => h, rfl⟩
theorem Stp.trans {P : Program} {B : Ctx} {σ τ υ : Sg} {s t u : St} {w w' w'' : World} (h : Stp P B σ s w τ t w') (k : Stp P B τ t w' υ u w'') : Stp P B σ s w υ u w'' :=
  ⟨k.inv, fun x hx => (k.old x (Nat.lt_of_lt_of_le hx h.nle)).trans (h.old x hx), Nat.le_trans h.nle k.nle, h.fr.trans k.fr h.sub, fun b hb hf => h.sub b hb (k.sub b (Nat.lt_of_lt_of_le hb h.fr.size) hf), fun x hx hn => k.keep x (Nat.lt_of_lt_of_le hx h.nle) (h.keep x hx hn), k.ext.trans h.ext⟩
/-- A frame's slots. -/
structure TR (ds : List Deferred) (σ : Sg) (N : Nat) (T : Tr Value) (a : Act) : Prop where
  size : a.tmps.size = N
  defers : a.defers = ds
  at_ : ∀ t v, T.get t = some v → ∃ v', a.tmps[t]? = some v' ∧ VR σ v v'
theorem TR.mono {ds : List Deferred} {σ τ : Sg} (h : σ.le τ) {N : Nat} {T : Tr Value} {a : Act} (q : TR ds σ N T a) : TR ds τ N T a := ⟨q.size, q.defers, fun t v ht => let ⟨v', h1, h2⟩ := q.at_ t v ht; ⟨v', h1, h2.mono h⟩⟩
end
end Go.Proofs.YtimlldedpbbeoaaGreat
