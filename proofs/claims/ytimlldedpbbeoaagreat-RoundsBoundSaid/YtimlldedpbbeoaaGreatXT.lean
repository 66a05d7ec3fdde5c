/- The abstract run: outcomes that are alike are made one. -/
import Derived.Test.YtimlldedpbbeoaaGreatXH
namespace Go.Proofs.YtimlldedpbbeoaaGreat
open Go.RowKit
noncomputable section

def veqs (f : Value → Value → Bool) : List Value → List Value → Bool
  | [], [] => true
  | a :: r, b :: q => f a b && veqs f r q
  | _, _ => false
def veq : Nat → Value → Value → Bool
  | _, .bool a, .bool b => a == b
  | _, .int k a, .int l b => decide (k = l) && decide (a = b)
  | _, .string a, .string b => decide (a = b)
  | _, .pointer a, .pointer b => decide (a = b)
  | _, .slice a n c, .slice b m d => decide (a = b) && decide (n = m) && decide (c = d)
  | _, .map a, .map b => decide (a = b)
  | _, .nilFunc, .nilFunc => true
  | _, .nilIface, .nilIface => true
  | _, .chan a, .chan b => decide (a = b)
  | _, .float k a, .float l b => decide (k = l) && decide (a = b)
  | _, .complex k a c, .complex l b d => decide (k = l) && (decide (a = b) && decide (c = d))
  | k + 1, .func f a b, .func g c d => decide (f = g) && veqs (veq k) a.toList c.toList && veqs (veq k) b.toList d.toList
  | k + 1, .iface t v, .iface u w => decide (t = u) && veq k v w
  | k + 1, .agg a, .agg b => veqs (veq k) a.toList b.toList
  | k + 1, .tuple a, .tuple b => veqs (veq k) a.toList b.toList
  | _, _, _ => false
theorem veqs_eq {f : Value → Value → Bool} (h : ∀ a b, f a b = true → a = b) : ∀ (l m : List Value), veqs f l m = true → l = m
  | [], [], _ => rfl
  | [], _ :: _, h => nomatch h
  | _ :: _, [], h => nomatch h
  | a :: r, b :: q, e => by
    simp only [veqs, Bool.and_eq_true] at e
    rw [h a b e.1, veqs_eq h r q e.2]
theorem veq_eq : ∀ (k : Nat) (a b : Value), veq k a b = true → a = b := by
  intro k
  induction k with
  | zero =>
    intro a b h
    cases a <;> cases b <;> simp_all [veq]
  | succ k ih =>
    intro a b h
    cases a <;> cases b <;> first | (simp_all [veq]; done) | skip
    case func.func f a b g c d =>
      simp only [veq, Bool.and_eq_true, decide_eq_true_eq] at h
      rw [h.1.1, Array.toList_inj.1 (veqs_eq ih _ _ h.1.2), Array.toList_inj.1 (veqs_eq ih _ _ h.2)]
    case iface.iface t v u w =>
      simp only [veq, Bool.and_eq_true, decide_eq_true_eq] at h
      rw [h.1, ih _ _ h.2]
    case agg.agg a b =>
      simp only [veq] at h
      rw [Array.toList_inj.1 (veqs_eq ih _ _ h)]
    case tuple.tuple a b =>
      simp only [veq] at h
      rw [Array.toList_inj.1 (veqs_eq ih _ _ h)]


def exEq : Ex → Ex → Bool
  | .normal, .normal => true
  | .ret, .ret => true
  | .exit a, .exit b => a == b
  | _, _ => false
theorem exEq_eq {a b : Ex} (h : exEq a b = true) : a = b := by
  cases a <;> cases b <;> simp_all [exEq]
def Tr.eqB {α : Type} (f : α → α → Bool) : Tr α → Tr α → Bool
  | .leaf, .leaf => true
  | .node none l r, .node none m q => Tr.eqB f l m && Tr.eqB f r q
  | .node (some u) l r, .node (some v) m q => f u v && Tr.eqB f l m && Tr.eqB f r q
  | _, _ => false
theorem Tr.eqB_eq {α : Type} {f : α → α → Bool} (hf : ∀ a b, f a b = true → a = b) : ∀ (s t : Tr α), Tr.eqB f s t = true → s = t
  | .leaf, .leaf, _ => rfl
  | .node none l r, .node none m q, h => by
    simp only [Tr.eqB, Bool.and_eq_true] at h
    rw [Tr.eqB_eq hf l m h.1, Tr.eqB_eq hf r q h.2]
  | .node (some u) l r, .node (some v) m q, h => by
    simp only [Tr.eqB, Bool.and_eq_true] at h
    rw [hf u v h.1.1, Tr.eqB_eq hf l m h.1.2, Tr.eqB_eq hf r q h.2]
  | .leaf, .node _ _ _, h => nomatch h
  | .node none _ _, .leaf, h => nomatch h
  | .node (some _) _ _, .leaf, h => nomatch h
  | .node none _ _, .node (some _) _ _, h => nomatch h
  | .node (some _) _ _, .node none _ _, h => nomatch h
def entEq (a b : MapEntry) : Bool := veq 40 a.key b.key && veq 40 a.val b.val && (a.born == b.born)
theorem entEq_eq {a b : MapEntry} (h : entEq a b = true) : a = b := by
  unfold entEq at h
  simp only [Bool.and_eq_true, beq_iff_eq] at h
  cases a; cases b
  have h1 := veq_eq _ _ _ h.1.1
  have h2 := veq_eq _ _ _ h.1.2
  have h3 := h.2
  simp only at h1 h2 h3
  rw [h1, h2, h3]
def entsEq : List MapEntry → List MapEntry → Bool
  | [], [] => true
  | a :: r, b :: q => entEq a b && entsEq r q
  | _, _ => false
theorem entsEq_eq : ∀ (l m : List MapEntry), entsEq l m = true → l = m
  | [], [], _ => rfl
  | [], _ :: _, h => nomatch h
  | _ :: _, [], h => nomatch h
  | a :: r, b :: q, e => by
    simp only [entsEq, Bool.and_eq_true] at e
    rw [entEq_eq e.1, entsEq_eq r q e.2]
def aeq : AObj → AObj → Bool
  | .row c e r, .row d f q => decide (e = f) && decide (r = q) && veqs (veq 40) c d
  | .map l a, .map m b => decide (a = b) && entsEq l m
  | .iter m a l b, .iter n c k d => decide (m = n) && decide (a = c) && decide (l = k) && decide (b = d)
  | .chan a l, .chan b m => decide (a = b) && veqs (veq 40) l m
  | .loop a p T f r, .loop b q U g s => decide (a = b) && exEq p q && decide (f = g) && decide (r = s) && Tr.eqB (veq 40) T U
  | _, _ => false
theorem aeq_eq {a b : AObj} (h : aeq a b = true) : a = b := by
  unfold aeq at h
  split at h
  · simp only [Bool.and_eq_true, decide_eq_true_eq] at h
    rw [h.1.1, h.1.2, veqs_eq (veq_eq 40) _ _ h.2]
  · simp only [Bool.and_eq_true, decide_eq_true_eq] at h
    rw [h.1, entsEq_eq _ _ h.2]
  · simp only [Bool.and_eq_true, decide_eq_true_eq] at h
    rw [h.1.1.1, h.1.1.2, h.1.2, h.2]
  · simp only [Bool.and_eq_true, decide_eq_true_eq] at h
    rw [h.1, veqs_eq (veq_eq 40) _ _ h.2]
  · simp only [Bool.and_eq_true, decide_eq_true_eq] at h
    rw [h.1.1.1.1, exEq_eq h.1.1.1.2, h.1.1.2, h.1.2, Tr.eqB_eq (veq_eq 40) _ _ h.2]
  · cases h
def interO (a b : Option AObj) : Option AObj := match a, b with
  | some x, some y => if aeq x y then some x else none
  | _, _ => none
/-- What stands in both. -/
def inter : Tr AObj → Tr AObj → Tr AObj
  | .node u l r, .node v m q => .node (interO u v) (inter l m) (inter r q)
  | _, _ => .leaf
theorem interO_some {a b : Option AObj} {o : AObj} (h : interO a b = some o) : a = some o ∧ b = some o := by
  unfold interO at h
  split at h
  · split at h
    · rename_i he
      cases h
      exact ⟨rfl, by rw [aeq_eq he]⟩
    · cases h
  · cases h
theorem inter_getB : ∀ (s t : Tr AObj) (k : List Bool) (o : AObj), (inter s t).getB k = some o → s.getB k = some o ∧ t.getB k = some o
  | .node u l r, .node v m q, [], o, h => by
    simp only [inter, Tr.getB] at h ⊢
    exact interO_some h
  | .node u l r, .node v m q, true :: k, o, h => by
    simp only [inter, Tr.getB] at h ⊢
    exact inter_getB l m k o h
  | .node u l r, .node v m q, false :: k, o, h => by
    simp only [inter, Tr.getB] at h ⊢
    exact inter_getB r q k o h
  | .leaf, _, _, _, h => nomatch h
  | .node _ _ _, .leaf, _, _, h => nomatch h
theorem inter_get (s t : Tr AObj) (k : Nat) (o : AObj) (h : (inter s t).get k = some o) : s.get k = some o ∧ t.get k = some o := by
  unfold Tr.get at *
  rw [Tr.getR_eq] at *
  rw [Tr.getR_eq]
  exact inter_getB s t (bits k) o h
def mergeSt (s t : St) : St := ⟨max s.next t.next, inter s.h t.h⟩
/-- One value speaks for another one. -/
def CovV (v u : Value) : Prop := ∀ (σ : Sg) (v' : Value), VR σ u v' → VR σ v v'
/-- One outcome speaks for another one. -/
def Cov (y x : Value × St) : Prop := CovV y.1 x.1 ∧ x.2.next ≤ y.2.next ∧ ∀ z o, y.2.h.get z = some o → x.2.h.get z = some o
theorem Cov.refl (x : Value × St) : Cov x x := ⟨fun _ _ h => h, Nat.le_refl _, fun _ _ h => h⟩
theorem Cov.trans {x y z : Value × St} (h : Cov x y) (k : Cov y z) : Cov x z := ⟨fun σ v' q => h.1 σ v' (k.1 σ v' q), Nat.le_trans k.2.1 h.2.1, fun a o q => k.2.2 a o (h.2.2 a o q)⟩
theorem mergeSt_left {v u : Value} {s t : St} (h : CovV v u) : Cov (v, mergeSt s t) (u, s) := ⟨h, Nat.le_max_left _ _, fun _ _ h => (inter_get _ _ _ _ h).1⟩
theorem mergeSt_right {v u : Value} {s t : St} (h : CovV v u) : Cov (v, mergeSt s t) (u, t) := ⟨h, Nat.le_max_right _ _, fun _ _ h => (inter_get _ _ _ _ h).2⟩
/-- Two values made one: alike, or two bools. -/
def jn (a b : Value) : Option Value := if veq 40 a b then some a else if isBl a && isBl b then some ubV else none
theorem jn_ok {a b v : Value} (h : jn a b = some v) : CovV v a ∧ CovV v b := by
  unfold jn at h
  split at h
  · rename_i he
    cases h
    exact ⟨fun _ _ h => h, fun _ _ h => by rw [veq_eq _ _ _ he]; exact h⟩
  · split at h
    · rename_i hb
      cases h
      rw [Bool.and_eq_true] at hb
      refine ⟨fun σ v' hv => ?_, fun σ v' hv => ?_⟩
      · obtain ⟨c, rfl⟩ := isBl_ok hb.1 hv
        exact .ub _
      · obtain ⟨c, rfl⟩ := isBl_ok hb.2 hv
        exact .ub _
    · cases h
/-- Names that stand in the one and not in the other. -/
def lost (off mul : Nat) : Tr AObj → Tr AObj → List Nat
  | .node u l r, .node v m q => let rest := lost (off + mul) (mul * 2) l m ++ lost (off + mul * 2) (mul * 2) r q
    match u, v with
    | some _, none => off :: rest
    | _, _ => rest
  | .node u l r, .leaf => let rest := lost (off + mul) (mul * 2) l .leaf ++ lost (off + mul * 2) (mul * 2) r .leaf
    match u with
    | some _ => off :: rest
    | none => rest
  | _, _ => []
def refsV : Nat → Value → List Nat
  | _, .pointer (some ⟨x, _, _⟩) => [x]
  | _, .slice (some ⟨x, _, _⟩) _ _ => [x]
  | _, .map (some x) => [x]
  | _, .float .f32 (x + 1) => [x]
  | k + 1, .func f a b => (match f with | .yield x => [x] | _ => []) ++ a.toList.flatMap (refsV k) ++ b.toList.flatMap (refsV k)
  | k + 1, .iface _ v => refsV k v
  | k + 1, .agg a => a.toList.flatMap (refsV k)
  | k + 1, .tuple a => a.toList.flatMap (refsV k)
  | _, _ => []
def refsO : AObj → List Nat
  | .row cs _ _ => cs.flatMap (refsV 20)
  | .map es _ => es.flatMap fun e => refsV 20 e.key ++ refsV 20 e.val
  | .iter (some m) _ _ _ => [m]
  | .chan _ l => l.flatMap (refsV 20)
  | _ => []
/-- Can a thing of a list be come to? -/
def hits (bad : List Nat) (h : Tr AObj) : Nat → List Nat → List Nat → Bool
  | 0, _, _ => true
  | _, [], _ => false
  | k + 1, x :: r, seen => if bad.contains x then true else if seen.contains x then hits bad h k r seen else match h.get x with
    | some o => hits bad h k (refsO o ++ r) (x :: seen)
    | none => hits bad h k r (x :: seen)
/-- Does a thing that is older than the call lead to one of a list? -/
def oldHits (bad : List Nat) (base off mul : Nat) : Tr AObj → Bool
  | .node u l r => (match u with
      | some o => decide (off < base) && (refsO o).any bad.contains
      | none => false) || (oldHits bad base (off + mul) (mul * 2) l || oldHits bad base (off + mul * 2) (mul * 2) r)
  | _ => false
/-- May two outcomes be made one? (It is always right; it may cost what is wanted later.) -/
def may (base : Nat) (x y : Value × St) : Bool :=
  (jn x.1 y.1).isSome && (let m := inter x.2.h y.2.h; let bad := lost 0 1 x.2.h m ++ lost 0 1 y.2.h m
    bad.all (base ≤ ·) && (!hits bad x.2.h 10000 (refsV 20 x.1) [] && !oldHits bad base 0 1 m))
def insM (base : Nat) (x : Value × St) : List (Value × St) → List (Value × St)
  | [] => [x]
  | y :: r => if may base y x then ((jn y.1 x.1).getD y.1, mergeSt y.2 x.2) :: r else y :: insM base x r
def mergeL (base : Nat) : List (Value × St) → List (Value × St)
  | [] => []
  | [x] => [x]
  | x :: r => insM base x (mergeL base r)
theorem may_jn {base : Nat} {x y : Value × St} (h : may base x y = true) : CovV ((jn x.1 y.1).getD x.1) x.1 ∧ CovV ((jn x.1 y.1).getD x.1) y.1 := by
  unfold may at h
  rw [Bool.and_eq_true] at h
  obtain ⟨v, hv⟩ := Option.isSome_iff_exists.1 h.1
  rw [hv]
  exact jn_ok hv
theorem insM_new (base : Nat) (x : Value × St) : ∀ l, ∃ y ∈ insM base x l, Cov y x
  | [] => ⟨x, List.mem_singleton.2 rfl, Cov.refl x⟩
  | y :: r => by
    unfold insM
    split
    · rename_i h
      exact ⟨_, List.mem_cons_self, mergeSt_right (may_jn h).2⟩
    · obtain ⟨z, h1, h2⟩ := insM_new base x r
      exact ⟨z, List.mem_cons_of_mem _ h1, h2⟩
theorem insM_old (base : Nat) (x : Value × St) : ∀ l, ∀ z ∈ l, ∃ y ∈ insM base x l, Cov y z
  | [], z, h => nomatch h
  | y :: r, z, h => by
    unfold insM
    split
    · rename_i hm
      cases h with
      | head => exact ⟨_, List.mem_cons_self, mergeSt_left (may_jn hm).1⟩
      | tail _ h => exact ⟨z, List.mem_cons_of_mem _ h, Cov.refl z⟩
    · cases h with
      | head => exact ⟨_, List.mem_cons_self, Cov.refl _⟩
      | tail _ h =>
        obtain ⟨u, h1, h2⟩ := insM_old base x r z h
        exact ⟨u, List.mem_cons_of_mem _ h1, h2⟩
theorem mergeL_cov (base : Nat) : ∀ l, ∀ x ∈ l, ∃ y ∈ mergeL base l, Cov y x
  | [], x, h => nomatch h
  | [a], x, h => ⟨x, by simpa [mergeL] using h, Cov.refl x⟩
  | a :: b :: r, x, h => by
    unfold mergeL
    cases h with
    | head => exact insM_new base a _
    | tail _ h =>
      obtain ⟨y, h1, h2⟩ := mergeL_cov base (b :: r) x h
      obtain ⟨z, h3, h4⟩ := insM_old base a _ y h1
      exact ⟨z, h3, h4.trans h2⟩
/-- All outcomes made one, be it at the cost of what differs. -/
def forceM : List (Value × St) → Option (Value × St)
  | [] => none
  | [x] => some x
  | x :: r => match forceM r with
    | some y => match jn x.1 y.1 with
      | some v => some (v, mergeSt x.2 y.2)
      | none => none
    | none => none
theorem forceM_cov : ∀ {l : List (Value × St)} {y : Value × St}, forceM l = some y → ∀ x ∈ l, Cov y x
  | [], _, h, _, _ => nomatch h
  | [a], y, h, x, hx => by
    cases h
    obtain rfl : x = a := by simpa using hx
    exact Cov.refl x
  | a :: b :: r, y, h, x, hx => by
    unfold forceM at h
    split at h
    · rename_i z hz
      split at h
      · rename_i v he
        cases h
        cases hx with
        | head => exact mergeSt_left (jn_ok he).1
        | tail _ hx => exact (mergeSt_right (jn_ok he).2).trans (forceM_cov hz x hx)
      · cases h
    · cases h
def bindL {α β : Type} (f : α → Option (List β)) : List α → Option (List β)
  | [] => some []
  | [x] => f x
  | x :: r => match f x, bindL f r with
    | some a, some b => some (a ++ b)
    | _, _ => none
theorem bindL_mem {α β : Type} {f : α → Option (List β)} : ∀ {l : List α} {m : List β}, bindL f l = some m → ∀ x ∈ l, ∃ a, f x = some a ∧ ∀ y ∈ a, y ∈ m
  | [], _, _, _, h => nomatch h
  | [a], m, h, x, hx => by
    obtain rfl : x = a := by simpa using hx
    exact ⟨m, h, fun _ h => h⟩
  | a :: b :: r, m, h, x, hx => by
    unfold bindL at h
    split at h
    · rename_i u v h1 h2
      cases h
      cases hx with
      | head => exact ⟨u, h1, fun y hy => List.mem_append_left _ hy⟩
      | tail _ hx =>
        obtain ⟨w, h3, h4⟩ := bindL_mem h2 x hx
        exact ⟨w, h3, fun y hy => List.mem_append_right _ (h4 y hy)⟩
    · cases h
def ones {α : Type} : Option α → Option (List α)
  | some x => some [x]
  | none => none
theorem ones_some {α : Type} {o : Option α} {L : List α} (h : ones o = some L) : ∃ x, o = some x ∧ L = [x] := by
  cases o with
  | none => cases h
  | some x => cases h; exact ⟨x, rfl, rfl⟩
section
variable {P : Program} {B : Ctx} {σ : Sg} {s : St} {w : World}
theorem Stp.cov {τ : Sg} {t t' : St} {w' : World} (h : Stp P B σ s w τ t w') (hs : ∀ x o, t'.h.get x = some o → t.h.get x = some o) (hn : t.next ≤ t'.next) : Stp P B σ s w τ t' w' :=
  ⟨⟨h.inv.base, h.inv.own, fun x hx => h.inv.dom x (by omega), fun x o hx => h.inv.live x o (hs x o hx), fun x y o o' b κ κ' h1 h2 => h.inv.inj x y o o' b κ κ' (hs x o h1) (hs y o' h2)⟩, h.old, by have := h.nle; omega, h.fr,
   (fun b hb hf => h.sub b hb (by obtain ⟨x, o, κ, q1, q2⟩ := hf; exact ⟨x, o, κ, hs x o q1, q2⟩)), (fun x hx hn => by
     cases hc : t'.h.get x with
     | none => rfl
     | some o => have := hs x o hc; rw [h.keep x hx hn] at this; cases this), h.ext⟩
end
end
end Go.Proofs.YtimlldedpbbeoaaGreat
