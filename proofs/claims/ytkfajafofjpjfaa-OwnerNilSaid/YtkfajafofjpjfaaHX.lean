/- A region that draws its order, walked by hand: what only reads is taken first under what it reads (S); S need not hold behind the operation that comes last in every order. -/
import Derived.OrdersHeld
import Derived.StillTail
import Derived.Test.YtkfajafofjpjfaaAP
namespace Go.Proofs.Ytkfajafofjpjfaa
open Go.RowKit

section
variable {P : Program} {ops : Array Oper} {Q : Exit → Act → World → Prop} {md : Region.Mode} {S : World → Prop} {z : Nat}
/-- Whatever order is picked: S holds behind each operation but number z. -/
def wpAnyX (P : Program) (md : Region.Mode) (ops : Array Oper) (Q : Exit → Act → World → Prop) (S : World → Prop) (z : Nat) : Nat → Array Bool → Act → World → Prop
  | 0, listed, a, w => Region.ready md ops listed = [] ∧ Q .normal a w
  | fuel + 1, listed, a, w =>
    (Region.ready md ops listed = [] → Q .normal a w) ∧
    ∀ i ∈ Region.ready md ops listed, wpOp P ops Q i (fun a' w' => (S w' ∨ i = z) ∧ wpAnyX P md ops Q S z fuel (listed.setIfInBounds i true) a' w') a w
theorem any_of_x : ∀ (fuel : Nat) (listed : Array Bool) (a : Act) (w : World), wpAnyX P md ops Q S z fuel listed a w → wpAny P md ops Q fuel listed a w
  | 0, _, _, _, h => h
  | fuel + 1, _, _, _, h => ⟨h.1, fun i hi => wpOp_mono (fun a' w' h' => any_of_x fuel _ a' w' h'.2) (h.2 i hi)⟩
/-- What is listed waits for nothing that is not. -/
def Closed (md : Region.Mode) (ops : Array Oper) (listed : Array Bool) : Prop :=
  ∀ (j : Nat) (o : Oper), ops[j]? = some o → listed.getD j false = true → ∀ e ∈ o.after, Region.binds md e = true → listed.getD e.on false = true
theorem Closed.start (n : Nat) : Closed md ops (Array.replicate n false) := fun j o _ h => by
  exfalso
  by_cases hj : j < n
  · simp [hj] at h
  · simp [hj] at h
theorem Closed.set {listed : Array Bool} (h : Closed md ops listed) {i : Nat} (hi : i ∈ Region.ready md ops listed) : Closed md ops (listed.setIfInBounds i true) := by
  obtain ⟨_, oi, hoi, hall⟩ := mem_ready.1 hi
  intro j o ho hj e he hb
  have keep : listed.getD e.on false = true → (listed.setIfInBounds i true).getD e.on false = true := by
    intro hl
    by_cases hei : i = e.on
    · rw [← hei] at hl ⊢
      have : i < listed.size := by
        rcases Nat.lt_or_ge i listed.size with h' | h'
        · exact h'
        · simp [Array.getElem?_eq_none h'] at hl
      simp [this]
    · rw [getD_set_ne false hei]; exact hl
  by_cases hji : i = j
  · subst hji
    rw [hoi] at ho
    cases ho
    exact keep (hall e he hb)
  · rw [getD_set_ne false hji] at hj
    exact keep (h j o ho hj e he hb)
/-- A chain of operations, each of which waits for the next one. -/
def chainW (md : Region.Mode) (ops : Array Oper) : Nat → List Nat → Bool
  | _, [] => true
  | a, b :: r => Region.waitsFor md ops a b && chainW md ops b r
theorem chain_listed {listed : Array Bool} (hc : Closed md ops listed) : ∀ (r : List Nat) (a : Nat), listed.getD a false = true → chainW md ops a r = true → ∀ i ∈ r, listed.getD i false = true
  | [], _, _, _, i, hi => by cases hi
  | b :: r, a, ha, h, i, hi => by
    simp only [chainW, Bool.and_eq_true] at h
    obtain ⟨oj, hj, e, he, hb, rfl⟩ := Region.waitsFor_spec h.1
    have hb' := hc a oj hj ha e he hb
    cases hi with
    | head => exact hb'
    | tail _ hi => exact chain_listed hc r e.on hb' h.2 i hi
theorem ready_listed {listed : Array Bool} (hc : Closed md ops listed) (hz : z ∈ Region.ready md ops listed) {r : List Nat} (h : chainW md ops z r = true) (i : Nat) (hi : i ∈ r) : listed.getD i false = true := by
  cases r with
  | nil => cases hi
  | cons b r =>
    simp only [chainW, Bool.and_eq_true] at h
    obtain ⟨oj, hj, e, he, hb, rfl⟩ := Region.waitsFor_spec h.1
    obtain ⟨_, oz, hoz, hall⟩ := mem_ready.1 hz
    rw [hoz] at hj
    cases hj
    have hb' := hall e he hb
    cases hi with
    | head => exact hb'
    | tail _ hi => exact chain_listed hc r e.on hb' h.2 i hi
theorem x_first {i : Nat} {oi : Oper} {v : Value} {r : List Nat} (hi : ops[i]? = some oi) (hsel : ∀ (j : Nat) (o : Oper) cs b, ops[j]? = some o → o.op ≠ .select cs b) (hz : chainW md ops z r = true) (hir : i ∈ r)
    (hQ : ∀ c a w, Q (.panic c) (a.put oi.dst v) w → Q (.panic c) a w) :
    ∀ (fuel : Nat) (listed : Array Bool) (a : Act) (w : World), Closed md ops listed →
      (∀ j oj, ops[j]? = some oj → j ≠ i → listed.getD j true = false → (∀ e ∈ oj.after, Region.binds md e = true → e.on ≠ i) → oi.apart ops oj = true) →
      i ∈ Region.ready md ops listed → YieldsIf P ops S oi v a → S w →
      wpAnyX P md ops Q S z fuel (listed.setIfInBounds i true) (a.put oi.dst v) w → wpAnyX P md ops Q S z (fuel + 1) listed a w := by
  intro fuel
  induction fuel with
  | zero =>
    intro listed a w _ _ hr hy hS H
    refine ⟨fun h => (by rw [h] at hr; cases hr), fun j hj => ?_⟩
    by_cases hji : j = i
    · subst hji; exact hy.wpOp hi hS ⟨.inl hS, H⟩
    · have := ready_mono hj hji
      rw [H.1] at this
      cases this
  | succ fuel ih =>
    intro listed a w hcl hfree hr hy hS H
    refine ⟨fun h => (by rw [h] at hr; cases hr), fun j hj => ?_⟩
    by_cases hji : j = i
    · subst hji; exact hy.wpOp hi hS ⟨.inl hS, H⟩
    · have h1 := H.2 j (ready_mono hj hji)
      obtain ⟨hjun, oj, hoj, hall⟩ := mem_ready.1 hj
      have hnot : ∀ e ∈ oj.after, Region.binds md e = true → e.on ≠ i := fun e he hb heq => by
        have h1 := hall e he hb
        have h0 := (mem_ready.1 hr).1
        rw [heq] at h1
        rcases Nat.lt_or_ge i listed.size with h' | h'
        · simp [h'] at h0 h1; rw [h0] at h1; cases h1
        · simp [Array.getElem?_eq_none h'] at h1
      have h2 := wpOp_putIf hoj (hfree j oj hoj hji hjun hnot) (fun cs b => hsel i oi cs b hi) (fun cs b => hsel j oj cs b hoj) hQ hy h1
      have hfree' : ∀ k ok, ops[k]? = some ok → k ≠ i → (listed.setIfInBounds j true).getD k true = false →
          (∀ e ∈ ok.after, Region.binds md e = true → e.on ≠ i) → oi.apart ops ok = true := fun k ok hk hki hun hno => by
        refine hfree k ok hk hki ?_ hno
        by_cases hjk : j = k
        · subst hjk; exact hjun
        · rw [getD_set_ne true hjk] at hun; exact hun
      have hstill := ready_mono hr (Ne.symm hji)
      refine wpOp_mono (fun a' w' h3 => ?_) h2
      obtain ⟨hy3, hS3, h4⟩ := h3
      have hS4 : S w' := by
        rcases hS3 with hS3 | rfl
        · exact hS3
        · have h5 := ready_listed hcl hj hz i hir
          have h0 := (mem_ready.1 hr).1
          rcases Nat.lt_or_ge i listed.size with h' | h'
          · simp [h'] at h0 h5; rw [h0] at h5; cases h5
          · simp [Array.getElem?_eq_none h'] at h5
      refine ⟨.inl hS4, ih (listed.setIfInBounds j true) a' w' (hcl.set hj) hfree' hstill hy3 hS4 ?_⟩
      rw [Array.setIfInBounds_comm _ _ hji]
      exact h4

/-- Where the walk of a region stands. -/
def AtX (P : Program) (ops : Array Oper) (Q : Exit → Act → World → Prop) (S : World → Prop) (z fuel : Nat) (listed : Array Bool) (a : Act) (w : World) : Prop :=
  Closed .any ops listed → wpAnyX P .any ops Q S z fuel listed a w
theorem region_x {id : Nat} {a : Act} {w : World} (S : World → Prop) (z : Nat) (hm : P.follows .mixedOrders = true) (h : AtX P ops Q S z ops.size (Array.replicate ops.size false) a w.drew) : (Code.region id ops true).wp P Q a w :=
  wp_region_any hm (any_of_x (S := S) (z := z) _ _ _ _ (h (Closed.start _)))
theorem x_take {i : Nat} {oi : Oper} {v : Value} {fuel : Nat} {listed : Array Bool} {a : Act} {w : World} (r : List Nat) (hi : ops[i]? = some oi) (hb : (Region.noSelect ops && Region.free .any ops listed i && (Region.ready .any ops listed).contains i && chainW .any ops z r && r.contains i) = true)
    (hQ : ∀ c a w, Q (.panic c) (a.put oi.dst v) w → Q (.panic c) a w) (hS : S w) (hy : YieldsIf P ops S oi v a)
    (h : AtX P ops Q S z fuel (listed.setIfInBounds i true) (a.put oi.dst v) w) : AtX P ops Q S z (fuel + 1) listed a w := by
  simp only [Bool.and_eq_true] at hb
  obtain ⟨⟨⟨⟨h1, h2⟩, h3⟩, h4⟩, h5⟩ := hb
  have h3 : i ∈ Region.ready .any ops listed := by simpa using h3
  exact fun hc => x_first hi (Region.noSelect_spec h1) h4 (by simpa using h5) hQ fuel listed a w hc (Region.free_spec hi h2) h3 hy hS (h (hc.set h3))
/-- The one that comes up. -/
theorem x_one {i : Nat} {o : Oper} {fuel : Nat} {listed : Array Bool} {a : Act} {w : World} (hr : Region.ready .any ops listed = [i]) (ho : ops[i]? = some o) (hg : o.guard = none)
    (h : ∀ K : Act → World → Prop, (∀ a' w', (S w' ∨ i = z) → AtX P ops Q S z fuel (listed.setIfInBounds i true) a' w' → K a' w') → o.wp P a w K Q) : AtX P ops Q S z (fuel + 1) listed a w := by
  intro hc
  refine ⟨fun h0 => (by rw [hr] at h0; cases h0), fun j hj => ?_⟩
  have hj' := hj
  rw [hr] at hj
  obtain rfl : j = i := by simpa using hj
  unfold wpOp
  simp only [ho]
  rw [if_pos (by simp [Region.wanted, hg])]
  exact .inl (h _ fun a' w' h1 h2 => ⟨h1, h2 (hc.set hj')⟩)
theorem x_oneg {i : Nat} {o : Oper} {fuel : Nat} {listed : Array Bool} {a : Act} {w : World} (hr : Region.ready .any ops listed = [i]) (ho : ops[i]? = some o) (hw : Region.wanted o (yielded ops a.tmps) = true)
    (h : ∀ K : Act → World → Prop, (∀ a' w', (S w' ∨ i = z) → AtX P ops Q S z fuel (listed.setIfInBounds i true) a' w' → K a' w') → o.wp P a w K Q) : AtX P ops Q S z (fuel + 1) listed a w := by
  intro hc
  refine ⟨fun h0 => (by rw [hr] at h0; cases h0), fun j hj => ?_⟩
  have hj' := hj
  rw [hr] at hj
  obtain rfl : j = i := by simpa using hj
  unfold wpOp
  simp only [ho]
  rw [if_pos hw]
  exact .inl (h _ fun a' w' h1 h2 => ⟨h1, h2 (hc.set hj')⟩)
theorem x_done {fuel : Nat} {listed : Array Bool} {a : Act} {w : World} (hr : Region.ready .any ops listed = []) (h : Q .normal a w) : AtX P ops Q S z fuel listed a w := by
  intro _
  cases fuel with
  | zero => exact ⟨hr, h⟩
  | succ n => exact ⟨fun _ => h, by rw [hr]; simp⟩
end
theorem wp_append_rd {P : Program} {o : Oper} {a : Act} {w : World} {K : Act → World → Prop} {Q : Exit → Act → World → Prop}
    (s x : Operand) (t : TypeId) (hop : o.op = Op.call { callee := Callee.builtin Builtin.append, args := #[s, x], argTypes := #[t, t] })
    (base : Nat) (e : TypeId) (i : TypeInfo) (z : Value) (size bytes : Nat) (ht : P.underlying t = some (.slice e)) (hi : P.info? e = some i) (hz : i.zero = some z)
    (hsz : i.size = size) (hb : i.bytes = bytes) (hzs : z.cells.size = size) (hpos : 0 < size) (v : Value) (n : Nat) (xs : List Value) (hs : a.eval s = v) (hown : w.ownsRow base e size v n xs)
    (u : Value) (m : Nat) (news : List Value) (hx : a.eval x = u) (hr : Rd w u m news) (hl : news.length = m * size) (h1 : ∀ u ∈ news, u.oneCell' = true) (hm : n + m ≤ maxLen) (hm2 : (n + m) * bytes ≤ 140737488355328) (hbase : base ≤ w.heap.size)
    (hK : ∀ v' w', w'.ownsRow base e size v' (n + m) (xs ++ news) → w.grownBy w' v.ownBlock → (v'.ownBlock = v.ownBlock ∨ v'.ownBlock = some w.heap.size) → K (a.put o.dst v') w') : o.wp P a w K Q := by
  obtain ⟨v', w', hrun, r1, r2, r3⟩ := own_append_rd (P := P) w base t o.type e i z size bytes ht hi hz hsz hb hzs hpos v n xs hown u m news hr hl h1 hm hm2 hbase
  unfold Oper.wp
  simp [execOp, hop, resolve, invoke, builtin, hs, hx, hrun, Result.andThen]
  exact hK v' w' r1 r2 r3
end Go.Proofs.Ytkfajafofjpjfaa
