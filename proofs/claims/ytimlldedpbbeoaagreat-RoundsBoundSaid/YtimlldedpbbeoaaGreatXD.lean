/- The abstract run: arithmetic, slicing, literals, lengths; all that is quiet. -/
import Derived.Test.YtimlldedpbbeoaaGreatXC
import Derived.Laws.BitsLemmas
namespace Go.Proofs.YtimlldedpbbeoaaGreat
open Go.RowKit
noncomputable section

section
variable {P : Program} {B : Ctx} {σ : Sg} {s : St} {w : World}
def intV (op : BinOp) (k : IntKind) (a b : Int) : Option Value :=
  match op with
  | .add => some (.int k (k.wrap (a + b)))
  | .sub => some (.int k (k.wrap (a - b)))
  | .mul => some (.int k (k.wrap (a * b)))
  | .quo => if b = 0 then none else some (.int k (k.wrap (a.tdiv b)))
  | .rem => if b = 0 then none else some (.int k (a.tmod b))
  | .and => some (.int k (k.wrap (BitVec.ofInt k.bits a &&& BitVec.ofInt k.bits b).toNat))
  | .or => some (.int k (k.wrap (BitVec.ofInt k.bits a ||| BitVec.ofInt k.bits b).toNat))
  | .xor => some (.int k (k.wrap (BitVec.ofInt k.bits a ^^^ BitVec.ofInt k.bits b).toNat))
  | .andNot => some (.int k (k.wrap (BitVec.ofInt k.bits a &&& ~~~ BitVec.ofInt k.bits b).toNat))
  | .eql => some (.bool (a == b))
  | .neq => some (.bool (a != b))
  | .lss => some (.bool (decide (a < b)))
  | .leq => some (.bool (decide (a ≤ b)))
  | .gtr => some (.bool (decide (a > b)))
  | .geq => some (.bool (decide (a ≥ b)))
  | _ => none
def shiftV (op : BinOp) (k : IntKind) (a b : Int) : Option Value :=
  if b < 0 then none else
  match op with
  | .shl => some (.int k (k.wrap (a * 2 ^ (min b.toNat k.bits))))
  | .shr => some (.int k (a.fdiv (2 ^ (min b.toNat k.bits))))
  | _ => none
def strV (op : BinOp) (a b : ByteArray) : Option Value :=
  match op with
  | .add => if ((a.size + b.size : Nat) : Int) > IntKind.i64.max then none else some (.string (a ++ b))
  | .eql => some (.bool (a.toList == b.toList))
  | .neq => some (.bool (!(a.toList == b.toList)))
  | .lss => some (.bool (Op.bytesLess a.toList b.toList))
  | .leq => some (.bool (Op.bytesLess a.toList b.toList || a.toList == b.toList))
  | .gtr => some (.bool (!(Op.bytesLess a.toList b.toList || a.toList == b.toList)))
  | .geq => some (.bool (!(Op.bytesLess a.toList b.toList)))
  | _ => none
def isShift : BinOp → Bool
  | .shl | .shr => true
  | _ => false
/-- Two parts of a struct that may hold interfaces are not held against each other. -/
def plainEq (P : Program) (t : TypeId) : Value → Value → Bool
  | .agg _, .agg _ => !P.eqGuardType P.depth t
  | .nilIface, _ => false
  | _, .nilIface => false
  | .chan _, _ => false
  | _, .chan _ => false
  | .float _ _, _ => false
  | _, .float _ _ => false
  | .complex _ _ _, _ => false
  | _, .complex _ _ _ => false
  | _, _ => true
def binV (P : Program) (h : Tr AObj) (op : BinOp) (t : TypeId) (x y : Value) : Option Value :=
  match x, y with
  | .int k a, .int k' b => if isShift op then shiftV op k a b else if k = k' then intV op k a b else none
  | .string a, .string b => strV op a b
  | x, y => if plainEq P t x y then (match op with
    | .eql => (eqV P h 10000 t x y).map fun b => .bool b
    | .neq => (eqV P h 10000 t x y).map fun b => .bool (!b)
    | _ => none) else none
theorem guard_run {op : BinOp} {t : TypeId} {x y : Operand} {u v : Value} (h : plainEq P t u v = true) : (eqGuard op t x y u v).run P w = .ok () w := by
  unfold eqGuard
  cases op <;> (try rfl) <;> (cases u <;> cases v <;> first | rfl | (simp [plainEq] at h; done) | skip)
  · exact run_eqGuard_agg (w := w) .eql t x y _ _ (by simpa [plainEq] using h)
  · exact run_eqGuard_agg (w := w) .neq t x y _ _ (by simpa [plainEq] using h)
theorem bin_eq {t : TypeId} {x y : Value} {r : Bool} (h : (Op.equalIn 10000 t x y).run P w = .ok r w) (hx : ∀ k n, x ≠ .int k n) (hs : ∀ b, x ≠ .string b) (hf : ∀ k n, x ≠ .float k n) (hc : ∀ k n m, x ≠ .complex k n m) : (binOp .eql t x y).run P w = .ok (.bool r) w := by
  have : binOp .eql t x y = (do pure (.bool (← Op.equal t x y))) := by
    cases x <;> cases y <;> first | rfl | exact absurd rfl (hx _ _) | exact absurd rfl (hs _) | exact absurd rfl (hf _ _) | exact absurd rfl (hc _ _ _)
  rw [this]
  show ((Op.equalIn 10000 t x y >>= fun b => pure (Value.bool b)).run P w) = _
  rw [Sem.run_bind, h]
  rfl
theorem bin_ne {t : TypeId} {x y : Value} {r : Bool} (h : (Op.equalIn 10000 t x y).run P w = .ok r w) (hx : ∀ k n, x ≠ .int k n) (hs : ∀ b, x ≠ .string b) (hf : ∀ k n, x ≠ .float k n) (hc : ∀ k n m, x ≠ .complex k n m) : (binOp .neq t x y).run P w = .ok (.bool (!r)) w := by
  have : binOp .neq t x y = (do pure (.bool (!(← Op.equal t x y)))) := by
    cases x <;> cases y <;> first | rfl | exact absurd rfl (hx _ _) | exact absurd rfl (hs _) | exact absurd rfl (hf _ _) | exact absurd rfl (hc _ _ _)
  rw [this]
  show ((Op.equalIn 10000 t x y >>= fun b => pure (Value.bool (!b))).run P w) = _
  rw [Sem.run_bind, h]
  rfl
theorem intV_run {op : BinOp} {t : TypeId} {k : IntKind} {a b : Int} {r : Value} (hs : isShift op = false) (h : intV op k a b = some r) : (binOp op t (.int k a) (.int k b)).run P w = .ok r w := by
  cases op <;> first | (simp [isShift] at hs; done) | (simp [intV] at h; done) | skip
  all_goals simp only [intV] at h
  all_goals first
    | (cases h; simp [binOp, Op.intArith, Op.intCmp, Op.intBits]; done)
    | (split at h
       · cases h
       · rename_i hb; cases h; simp [binOp, Op.intDiv, hb])
theorem intV_flat {op : BinOp} {k : IntKind} {a b : Int} {r : Value} (h : intV op k a b = some r) : VR σ r r := by
  cases op <;> simp only [intV] at h <;> first | (cases h; done) | (cases h; exact .int _ _) | (cases h; exact .bool _) | skip
  all_goals
    split at h
    · cases h
    · cases h; exact .int _ _
theorem shiftV_run {op : BinOp} {t : TypeId} {k k' : IntKind} {a b : Int} {r : Value} (h : shiftV op k a b = some r) : (binOp op t (.int k a) (.int k' b)).run P w = .ok r w ∧ VR σ r r := by
  unfold shiftV at h
  split at h
  · cases h
  · rename_i hb
    cases op <;> first | (cases h; done) | (cases h; exact ⟨by simp [binOp, Op.shift, hb], .int _ _⟩)
theorem strV_run {op : BinOp} {t : TypeId} {a b : ByteArray} {r : Value} (h : strV op a b = some r) : (binOp op t (.string a) (.string b)).run P w = .ok r w ∧ VR σ r r := by
  cases op <;> simp only [strV] at h <;> first | (cases h; done) | (cases h; exact ⟨by simp [binOp, Op.stringOp], .bool _⟩) | skip
  split at h
  · cases h
  · rename_i hn
    cases h
    refine ⟨?_, .string _⟩
    have hn' : ¬ ((a.size + b.size : Nat) : Int) > IntKind.i64.max := hn
    show (Op.stringOp .add a b).run P w = _
    unfold Op.stringOp
    simp only []
    rw [if_neg hn']
    rfl
theorem eqV_int {h : Tr AObj} {d : Nat} {t : TypeId} {k : IntKind} {n : Int} {y : Value} {b : Bool} (he : eqV P h d t (.int k n) y = some b) : ∃ k' n', y = .int k' n' := by
  cases d with
  | zero => cases he
  | succ d =>
    unfold eqV at he
    split at he <;> first | contradiction | exact ⟨_, _, rfl⟩
theorem eqV_str {h : Tr AObj} {d : Nat} {t : TypeId} {s : ByteArray} {y : Value} {b : Bool} (he : eqV P h d t (.string s) y = some b) : ∃ u, y = .string u := by
  cases d with
  | zero => cases he
  | succ d =>
    unfold eqV at he
    split at he <;> first | contradiction | exact ⟨_, rfl⟩
theorem binV_ok (hi : Inv P B σ s w) {op : BinOp} {t : TypeId} {x y x' y' r : Value} {ox oy : Operand} (h : binV P s.h op t x y = some r) (hx : VR σ x x') (hy : VR σ y y') :
    ∃ r', (do eqGuard op t ox oy x' y'; binOp op t x' y' : Sem Value).run P w = .ok r' w ∧ VR σ r r' := by
  unfold binV at h
  split at h
  · cases hx; cases hy
    have hg : ∀ k a k' b, (eqGuard op t ox oy (.int k a) (.int k' b)).run P w = .ok () w := fun _ _ _ _ => guard_run rfl
    split at h
    · obtain ⟨h1, h2⟩ := shiftV_run (P := P) (w := w) (σ := σ) (t := t) h
      exact ⟨r, by rw [Sem.run_bind, hg, Result.andThen_ok, h1], h2⟩
    · rename_i hsh
      split at h
      · rename_i hk
        subst hk
        exact ⟨r, by rw [Sem.run_bind, hg, Result.andThen_ok, intV_run (by simpa using hsh) h], intV_flat h⟩
      · cases h
  · cases hx; cases hy
    obtain ⟨h1, h2⟩ := strV_run (P := P) (w := w) (σ := σ) (t := t) h
    exact ⟨r, by rw [Sem.run_bind, guard_run rfl, Result.andThen_ok, h1], h2⟩
  · split at h
    · rename_i hint hstr hpl
      have hpl' : plainEq P t x' y' = true := by cases hx <;> cases hy <;> first | exact hpl | rfl | (simp [plainEq] at hpl; done)
      have hnc : ∀ c, x ≠ .chan c := fun c e => by subst e; cases y <;> simp [plainEq] at hpl
      have hnf : ∀ k c, x ≠ .float k c := fun k c e => by subst e; cases y <;> simp [plainEq] at hpl
      have hnx : ∀ k c d, x ≠ .complex k c d := fun k c d e => by subst e; cases y <;> simp [plainEq] at hpl
      have notint : ∀ d b, eqV P s.h d t x y = some b → (∀ k n, x' ≠ .int k n) ∧ (∀ b, x' ≠ .string b) ∧ (∀ k n, x' ≠ .float k n) ∧ (∀ k n m, x' ≠ .complex k n m) := by
        intro d b he
        refine ⟨fun k n e => ?_, fun b e => ?_, fun k n e => ?_, fun k n m e => ?_⟩
        · cases hx <;> first | (cases e; done) | exact hnc _ rfl | exact hnf _ _ rfl | exact hnx _ _ _ rfl | skip
          obtain ⟨k', n', rfl⟩ := eqV_int he
          exact hint _ _ _ _ rfl rfl
        · cases hx <;> first | (cases e; done) | exact hnc _ rfl | exact hnf _ _ rfl | exact hnx _ _ _ rfl | skip
          obtain ⟨u, rfl⟩ := eqV_str he
          exact hstr _ _ rfl rfl
        · cases hx <;> first | (cases e; done) | exact hnc _ rfl | exact hnf _ _ rfl | exact hnx _ _ _ rfl
        · cases hx <;> first | (cases e; done) | exact hnc _ rfl | exact hnf _ _ rfl | exact hnx _ _ _ rfl
      split at h
      · cases he : eqV P s.h 10000 t x y with
        | none => simp [he] at h
        | some b =>
          simp only [he, Option.map_some, Option.some.injEq] at h
          subst h
          obtain ⟨q1, q2, q3, q4⟩ := notint _ _ he
          exact ⟨_, by rw [Sem.run_bind, guard_run hpl', Result.andThen_ok, bin_eq (eqV_ok hi _ _ _ _ _ _ _ he hx hy) q1 q2 q3 q4], .bool _⟩
      · cases he : eqV P s.h 10000 t x y with
        | none => simp [he] at h
        | some b =>
          simp only [he, Option.map_some, Option.some.injEq] at h
          subst h
          obtain ⟨q1, q2, q3, q4⟩ := notint _ _ he
          exact ⟨_, by rw [Sem.run_bind, guard_run hpl', Result.andThen_ok, bin_ne (eqV_ok hi _ _ _ _ _ _ _ he hx hy) q1 q2 q3 q4], .bool _⟩
      · cases h
    · cases h
/-- Numbers of which the bounds alone are known. -/
def ivlOf : Value → Option (Int × Int)
  | .int .i64 n => some (n, n)
  | .complex .f64 lo hi => some ((lo : Int) - 9223372036854775808, (hi : Int) - 9223372036854775808)
  | _ => none
theorem ivlOf_ok {x x' : Value} {a b : Int} (h : ivlOf x = some (a, b)) (hx : VR σ x x') : ∃ n, x' = .int .i64 n ∧ a ≤ n ∧ n ≤ b := by
  unfold ivlOf at h
  split at h
  · cases h; cases hx; exact ⟨_, rfl, Int.le_refl _, Int.le_refl _⟩
  · cases h
    cases hx with
    | ivl _ _ n h1 h2 => exact ⟨n, rfl, by omega, by omega⟩
  · cases h
/-- A bool that nobody knows. -/
def ubV : Value := .func (.method "") #[] #[]
/-- A number from so much to so much, or any. -/
def rngV (a b : Int) : Value := if -9223372036854775808 ≤ a ∧ b ≤ 9223372036854775807 then .complex .f64 (a + 9223372036854775808).toNat (b + 9223372036854775808).toNat else .complex .f64 0 18446744073709551615
theorem rngV_ok {σ : Sg} {a b n : Int} (h1 : a ≤ n) (h2 : n ≤ b) : VR σ (rngV a b) (.int .i64 (IntKind.i64.wrap n)) := by
  unfold rngV
  split
  · have hw : IntKind.i64.wrap n = n := by
      have e1 : -9223372036854775808 ≤ n := by omega
      have e2 : n ≤ 9223372036854775807 := by omega
      rw [IntKind.wrap_i64]; omega
    rw [hw]
    exact .ivl _ _ _ (by omega) (by omega)
  · have : -9223372036854775808 ≤ IntKind.i64.wrap n ∧ IntKind.i64.wrap n ≤ 9223372036854775807 := by
      rw [IntKind.wrap_i64]; omega
    exact .ivl _ _ _ (by omega) (by omega)
def ivlV (op : BinOp) (a b c d : Int) : Option Value :=
  match op with
  | .lss => if b < c then some (.bool true) else if d ≤ a then some (.bool false) else some ubV
  | .leq => if b ≤ c then some (.bool true) else if d < a then some (.bool false) else some ubV
  | .gtr => if d < a then some (.bool true) else if b ≤ c then some (.bool false) else some ubV
  | .geq => if d ≤ a then some (.bool true) else if b < c then some (.bool false) else some ubV
  | .eql => if b < c ∨ d < a then some (.bool false) else if b ≤ c ∧ d ≤ a then some (.bool true) else some ubV
  | .neq => if b < c ∨ d < a then some (.bool true) else if b ≤ c ∧ d ≤ a then some (.bool false) else some ubV
  | .add => some (rngV (a + c) (b + d))
  | .sub => some (rngV (a - d) (b - c))
  | .mul => if 0 ≤ a ∧ 0 ≤ c then some (rngV (a * c) (b * d)) else none
  | .shl => if 0 ≤ a ∧ 0 ≤ c ∧ d ≤ 63 then some (rngV (a * 2 ^ c.toNat) (b * 2 ^ d.toNat)) else none
  | .shr => if 0 ≤ a ∧ 0 ≤ c ∧ b ≤ 9223372036854775807 then some (rngV 0 b) else none
  | .and => if 0 ≤ a ∧ 0 ≤ c ∧ b ≤ 9223372036854775807 ∧ d ≤ 9223372036854775807 then some (rngV 0 (min b d)) else none
  | .quo => if 0 ≤ a ∧ 0 < c then some (rngV 0 b) else none
  | .rem => if 0 ≤ a ∧ 0 < c ∧ d ≤ 9223372036854775807 then some (rngV 0 (d - 1)) else none
  | _ => none
theorem pow_le {c m d : Int} (h1 : c ≤ m) (h2 : m ≤ d) : (2 : Int) ^ c.toNat ≤ 2 ^ m.toNat ∧ (2 : Int) ^ m.toNat ≤ 2 ^ d.toNat :=
  have e : ∀ k : Nat, (2 : Int) ^ k = ((2 ^ k : Nat) : Int) := fun k => by simp
  ⟨by rw [e, e]; exact Int.ofNat_le.2 (Nat.pow_le_pow_right (by decide) (by omega)), by rw [e, e]; exact Int.ofNat_le.2 (Nat.pow_le_pow_right (by decide) (by omega))⟩
set_option linter.unusedSimpArgs false in
theorem ivlV_ok {op : BinOp} {t : TypeId} {a b c d n m : Int} {r : Value} (h : ivlV op a b c d = some r) (h1 : a ≤ n) (h2 : n ≤ b) (h3 : c ≤ m) (h4 : m ≤ d) : ∃ r', (binOp op t (.int .i64 n) (.int .i64 m)).run P w = .ok r' w ∧ VR σ r r' := by
  have cmp : ∀ {b' : Bool} {r' : Bool}, (binOp op t (.int .i64 n) (.int .i64 m)).run P w = .ok (.bool r') w → r = .bool b' → r' = b' → ∃ r', (binOp op t (.int .i64 n) (.int .i64 m)).run P w = .ok r' w ∧ VR σ r r' := by
    rintro b' r' q rfl rfl
    exact ⟨_, q, .bool _⟩
  have unk : ∀ {r' : Bool}, (binOp op t (.int .i64 n) (.int .i64 m)).run P w = .ok (.bool r') w → r = ubV → ∃ r', (binOp op t (.int .i64 n) (.int .i64 m)).run P w = .ok r' w ∧ VR σ r r' := by
    rintro r' q rfl
    exact ⟨_, q, .ub _⟩
  cases op <;> simp only [ivlV] at h <;> first | (cases h; done) | skip
  case add =>
    cases h
    exact ⟨.int .i64 (IntKind.i64.wrap (n + m)), by simp [binOp, Op.intArith], rngV_ok (by omega) (by omega)⟩
  case sub =>
    cases h
    exact ⟨.int .i64 (IntKind.i64.wrap (n - m)), by simp [binOp, Op.intArith], rngV_ok (by omega) (by omega)⟩
  case mul =>
    split at h
    · cases h
      refine ⟨.int .i64 (IntKind.i64.wrap (n * m)), by simp [binOp, Op.intArith], rngV_ok ?_ ?_⟩
      · exact Int.mul_le_mul h1 h3 (by omega) (by omega)
      · exact Int.mul_le_mul h2 h4 (by omega) (by omega)
    · cases h
  case shl =>
    split at h
    · rename_i hb
      cases h
      have hm : min m.toNat IntKind.i64.bits = m.toNat := by show min m.toNat 64 = _; omega
      have hn0 : ¬ m < 0 := by omega
      have hp := pow_le h3 h4
      have hc : (0 : Int) < 2 ^ c.toNat := Int.pow_pos (by omega)
      refine ⟨.int .i64 (IntKind.i64.wrap (n * 2 ^ m.toNat)), by simp [binOp, Op.shift, hn0, hm], rngV_ok ?_ ?_⟩
      · exact Int.mul_le_mul h1 hp.1 (by omega) (by omega)
      · exact Int.mul_le_mul h2 hp.2 (by omega) (by omega)
    · cases h
  case shr =>
    split at h
    · rename_i hb
      cases h
      have hn0 : ¬ m < 0 := by omega
      have hp : (0 : Int) < 2 ^ (min m.toNat IntKind.i64.bits) := Int.pow_pos (by omega)
      have e1 : n.fdiv (2 ^ (min m.toNat IntKind.i64.bits)) = n / 2 ^ (min m.toNat IntKind.i64.bits) := Int.fdiv_eq_ediv_of_nonneg _ (by omega)
      have e2 : 0 ≤ n / 2 ^ (min m.toNat IntKind.i64.bits) := Int.ediv_nonneg (by omega) (by omega)
      have e3 : n / 2 ^ (min m.toNat IntKind.i64.bits) ≤ n := Int.ediv_le_self _ (by omega)
      generalize hq : n / 2 ^ (min m.toNat IntKind.i64.bits) = q at e1 e2 e3
      refine ⟨.int .i64 (n.fdiv (2 ^ (min m.toNat IntKind.i64.bits))), by simp [binOp, Op.shift, hn0], ?_⟩
      rw [e1]
      have hw : IntKind.i64.wrap q = q := by
        rw [IntKind.wrap_i64]; omega
      rw [← hw]
      exact rngV_ok e2 (by omega)
    · cases h
  case and =>
    split at h
    · rename_i hb
      cases h
      have e1 : (BitVec.ofInt 64 n).toNat = n.toNat := by
        rw [BitVec.toNat_ofInt]
        omega
      have e2 : (BitVec.ofInt 64 m).toNat = m.toNat := by
        rw [BitVec.toNat_ofInt]
        omega
      have e3 : (BitVec.ofInt 64 n &&& BitVec.ofInt 64 m).toNat ≤ n.toNat := by
        rw [BitVec.toNat_and, e1]; exact Nat.and_le_left
      have e4 : (BitVec.ofInt 64 n &&& BitVec.ofInt 64 m).toNat ≤ m.toNat := by
        rw [BitVec.toNat_and, e2]; exact Nat.and_le_right
      refine ⟨.int .i64 (IntKind.i64.wrap (BitVec.ofInt 64 n &&& BitVec.ofInt 64 m).toNat), intV_run (P := P) (w := w) rfl rfl, rngV_ok ?_ ?_⟩ <;> omega
    · cases h
  case quo =>
    split at h
    · rename_i hb
      cases h
      have hm0 : ¬ m = 0 := by omega
      have e1 : n.tdiv m = n / m := Int.tdiv_eq_ediv_of_nonneg (by omega)
      have e2 : 0 ≤ n / m := Int.ediv_nonneg (by omega) (by omega)
      have e3 : n / m ≤ n := Int.ediv_le_self _ (by omega)
      refine ⟨.int .i64 (IntKind.i64.wrap (n.tdiv m)), by simp [binOp, Op.intDiv, hm0], rngV_ok ?_ ?_⟩ <;> rw [e1] <;> omega
    · cases h
  case rem =>
    split at h
    · rename_i hb
      cases h
      have hm0 : ¬ m = 0 := by omega
      have e1 : n.tmod m = n % m := Int.tmod_eq_emod_of_nonneg (by omega)
      have e2 : 0 ≤ n % m := Int.emod_nonneg _ hm0
      have e3 : n % m < m := Int.emod_lt_of_pos _ (by omega)
      have hw : IntKind.i64.wrap (n % m) = n % m := by
        rw [IntKind.wrap_i64]; omega
      refine ⟨.int .i64 (n.tmod m), by simp [binOp, Op.intDiv, hm0], ?_⟩
      rw [e1, ← hw]
      exact rngV_ok (by omega) (by omega)
    · cases h
  all_goals
    split at h
    · cases h
      exact cmp (by simp [binOp, Op.intCmp]; rfl) rfl (by simp; omega)
    · split at h
      · cases h
        exact cmp (by simp [binOp, Op.intCmp]; rfl) rfl (by simp; omega)
      · cases h
        exact unk (by simp [binOp, Op.intCmp]; rfl) rfl
def isIvl : Value → Bool
  | .complex .f64 _ _ => true
  | _ => false
/-- Channels held against nil. -/
def chV (P : Program) (op : BinOp) (t : TypeId) (a b : Nat) : Option Value :=
  match P.underlying t with
  | some (.chan _ _) => if a = 0 ∨ b = 0 then (match op with
    | .eql => some (.bool (a == b))
    | .neq => some (.bool (!(a == b)))
    | _ => none) else none
  | _ => none
theorem chV_ok {op : BinOp} {t : TypeId} {a b : Nat} {x' y' r : Value} {ox oy : Operand} (h : chV P op t a b = some r) (hx : VR σ (.float .f32 a) x') (hy : VR σ (.float .f32 b) y') :
    ∃ r', (do eqGuard op t ox oy x' y'; binOp op t x' y' : Sem Value).run P w = .ok r' w ∧ VR σ r r' := by
  unfold chV at h
  split at h
  · rename_i d e hu
    split at h
    · rename_i h0
      have key : ∃ p q, x' = .chan p ∧ y' = .chan q ∧ (p == q) = (a == b) := by
        cases hx with
        | nilc => cases hy with
          | nilc => exact ⟨none, none, rfl, rfl, rfl⟩
          | chanr x b' κ h => exact ⟨none, some b', rfl, rfl, by simp⟩
        | chanr x b' κ h => cases hy with
          | nilc => exact ⟨some b', none, rfl, rfl, by simp⟩
          | chanr => omega
      obtain ⟨p, q, rfl, rfl, hpq⟩ := key
      have hg : (eqGuard op t ox oy (.chan p) (.chan q)).run P w = .ok () w := by
        unfold eqGuard
        cases op <;> rfl
      have he : (Op.equalIn 10000 t (.chan p) (.chan q)).run P w = .ok (a == b) w := by
        show (Op.equalIn (9999 + 1) t (.chan p) (.chan q)).run P w = .ok (a == b) w
        rw [Op.equalIn, Sem.run_bind, run_underlying hu, Result.andThen_ok]
        show Result.ok (p == q) w = _
        rw [hpq]
      split at h
      · cases h
        exact ⟨_, by rw [Sem.run_bind, hg, Result.andThen_ok, bin_eq he (fun _ _ e => nomatch e) (fun _ e => nomatch e) (fun _ _ e => nomatch e) (fun _ _ _ e => nomatch e)], .bool _⟩
      · cases h
        exact ⟨_, by rw [Sem.run_bind, hg, Result.andThen_ok, bin_ne he (fun _ _ e => nomatch e) (fun _ e => nomatch e) (fun _ _ e => nomatch e) (fun _ _ _ e => nomatch e)], .bool _⟩
      · cases h
    · cases h
  · cases h
def isCh : Value → Option Nat
  | .float .f32 a => some a
  | _ => none
theorem isCh_eq {x : Value} {a : Nat} (h : isCh x = some a) : x = .float .f32 a := by
  unfold isCh at h
  split at h
  · cases h; rfl
  · cases h
def isBl : Value → Bool
  | .bool _ => true
  | .func (.method _) _ _ => true
  | _ => false
def isUb : Value → Bool
  | .func (.method _) _ _ => true
  | _ => false
theorem isBl_ok {x x' : Value} (h : isBl x = true) (hx : VR σ x x') : ∃ b, x' = .bool b := by
  cases hx <;> first | exact ⟨_, rfl⟩ | (simp [isBl] at h; done)
def ubW (P : Program) (op : BinOp) (t : TypeId) (x y : Value) : Option Value :=
  match P.underlying t with
  | some .bool => if isBl x && isBl y then (match op with
    | .eql => some ubV
    | .neq => some ubV
    | _ => none) else none
  | _ => none
theorem ubW_ok {op : BinOp} {t : TypeId} {x y x' y' r : Value} {ox oy : Operand} (h : ubW P op t x y = some r) (hx : VR σ x x') (hy : VR σ y y') :
    ∃ r', (do eqGuard op t ox oy x' y'; binOp op t x' y' : Sem Value).run P w = .ok r' w ∧ VR σ r r' := by
  unfold ubW at h
  split at h
  · rename_i hu
    split at h
    · rename_i hb
      rw [Bool.and_eq_true] at hb
      obtain ⟨a, rfl⟩ := isBl_ok hb.1 hx
      obtain ⟨b, rfl⟩ := isBl_ok hb.2 hy
      have hg : (eqGuard op t ox oy (.bool a) (.bool b)).run P w = .ok () w := guard_run rfl
      have he : (Op.equalIn 10000 t (.bool a) (.bool b)).run P w = .ok (a == b) w := by
        show (Op.equalIn (9999 + 1) t (.bool a) (.bool b)).run P w = .ok (a == b) w
        rw [Op.equalIn, Sem.run_bind, run_underlying hu, Result.andThen_ok]
        rfl
      split at h
      · cases h
        exact ⟨_, by rw [Sem.run_bind, hg, Result.andThen_ok, bin_eq he (fun _ _ e => nomatch e) (fun _ e => nomatch e) (fun _ _ e => nomatch e) (fun _ _ _ e => nomatch e)], .ub _⟩
      · cases h
        exact ⟨_, by rw [Sem.run_bind, hg, Result.andThen_ok, bin_ne he (fun _ _ e => nomatch e) (fun _ e => nomatch e) (fun _ _ e => nomatch e) (fun _ _ _ e => nomatch e)], .ub _⟩
      · cases h
    · cases h
  · cases h
def binW (P : Program) (h : Tr AObj) (op : BinOp) (t : TypeId) (x y : Value) : Option Value :=
  if isIvl x || isIvl y then match ivlOf x, ivlOf y with
    | some (a, b), some (c, d) => ivlV op a b c d
    | _, _ => none
  else if isUb x || isUb y then ubW P op t x y
  else match isCh x, isCh y with
    | some a, some b => chV P op t a b
    | _, _ => binV P h op t x y
theorem binW_ok (hi : Inv P B σ s w) {op : BinOp} {t : TypeId} {x y x' y' r : Value} {ox oy : Operand} (h : binW P s.h op t x y = some r) (hx : VR σ x x') (hy : VR σ y y') :
    ∃ r', (do eqGuard op t ox oy x' y'; binOp op t x' y' : Sem Value).run P w = .ok r' w ∧ VR σ r r' := by
  unfold binW at h
  split at h
  · split at h
    · rename_i a b c d hxa hyc
      obtain ⟨n, rfl, q1, q2⟩ := ivlOf_ok hxa hx
      obtain ⟨m, rfl, q3, q4⟩ := ivlOf_ok hyc hy
      obtain ⟨r', q5, q6⟩ := ivlV_ok (P := P) (w := w) (σ := σ) (t := t) h q1 q2 q3 q4
      exact ⟨r', by rw [Sem.run_bind, guard_run (u := .int .i64 n) (v := .int .i64 m) rfl, Result.andThen_ok, q5], q6⟩
    · cases h
  · split at h
    · exact ubW_ok h hx hy
    split at h
    · rename_i a b ha hb
      have ha := isCh_eq ha
      have hb := isCh_eq hb
      subst ha hb
      exact chV_ok h hx hy
    · exact binV_ok hi h hx hy
def unV (op : UnOp) : Value → Option Value
  | .int k n => match op with
    | .neg => some (.int k (k.wrap (0 - n)))
    | .xor => intV .xor k (if k.signed then -1 else k.max) n
    | _ => none
  | .bool b => match op with
    | .not => some (.bool (!b))
    | _ => none
  | .func (.method _) _ _ => match op with
    | .not => some ubV
    | _ => none
  | _ => none
theorem unV_ok {op : UnOp} {x x' r : Value} (h : unV op x = some r) (hx : VR σ x x') : ∃ r', (Op.unary op x').run P w = .ok r' w ∧ VR σ r r' := by
  unfold unV at h
  split at h
  · cases hx
    split at h
    · exact ⟨r, by cases h; simp [Op.unary, Op.intArith], by cases h; exact .int _ _⟩
    · refine ⟨r, ?_, intV_flat h⟩
      cases h
      simp [Op.unary, Op.intBits]
    · cases h
  · cases hx
    split at h
    · exact ⟨r, by cases h; simp [Op.unary], by cases h; exact .bool _⟩
    · cases h
  · cases hx with
    | ub b =>
      split at h
      · exact ⟨.bool (!b), by simp [Op.unary], by cases h; exact .ub _⟩
      · cases h
  · cases h
def convV (P : Program) (a b : TypeId) : Value → Option Value
  | .int _ n => match P.underlying a, P.underlying b with
    | some _, some (.int k) => some (.int k (k.wrap n))
    | _, _ => none
  | .string s => match P.underlying a, P.underlying b with
    | some .string, some .string => some (.string s)
    | _, _ => none
  | _ => none
theorem convV_ok {a b : TypeId} {x x' r : Value} (h : convV P a b x = some r) (hx : VR σ x x') : (convert a b x').run P w = .ok r w ∧ VR σ r r := by
  unfold convV at h
  split at h
  · rename_i k0 n0
    cases hx
    split at h
    · rename_i d k h1 h2
      cases h
      refine ⟨?_, .int _ _⟩
      have hk : P.intKind b = k := by simp [Program.intKind, h2]
      have := run_convert_int (P := P) (w := w) (src := a) (dst := b) (k := k0) (n := n0) (hs := by rw [h1]; rfl) (hd := by rw [hk]; exact h2)
      rw [hk] at this
      exact this
    · cases h
  · cases hx
    split at h
    · rename_i h1 h2
      cases h
      exact ⟨by simp [convert, run_underlying h1, run_underlying h2], .string _⟩
    · cases h
  · cases h
def nilV : Value → Option Value
  | .pointer (some a) => some (.pointer (some a))
  | .func (.func f) a b => some (.func (.func f) a b)
  | .map (some r) => some (.map (some r))
  | .slice a n c => some (.slice a n c)
  | _ => none
def extractV (i : Nat) : Value → Option Value
  | .tuple vs => vs.toList[i]?
  | _ => none
theorem extractV_ok {i : Nat} {x x' r : Value} (h : extractV i x = some r) (hx : VR σ x x') : ∃ r', (Instr.extract x' i).run P w = .ok r' w ∧ VR σ r r' := by
  unfold extractV at h
  split at h
  · obtain ⟨c', rfl, hc⟩ := hx.of_tuple
    obtain ⟨r', h1, h2⟩ := hc.get h
    exact ⟨r', by rw [Array.getElem?_toList] at h1; simp [Instr.extract, h1], h2⟩
  · cases h
end
end
end Go.Proofs.YtimlldedpbbeoaaGreat
