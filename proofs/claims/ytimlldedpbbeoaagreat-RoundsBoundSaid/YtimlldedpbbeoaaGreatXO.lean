/- A drawn region: whatever order comes, what the one run reckoned is what stands at the end. -/
import Derived.Test.YtimlldedpbbeoaaGreatXN
namespace Go.Proofs.YtimlldedpbbeoaaGreat
open Go.RowKit
noncomputable section

/-- All that is known of a region's one run. -/
structure Ran (call : CallF) (P : Program) (N : Nat) (ops : Array Oper) (M : List Nat) (D : Tr Nat) (T0 : Tr Value) (n0 : Nat) (Te : Tr Value) (all : List St) (cur : St) (E : List Nat) (R : Tr Rec) : Prop where
  st : Stat ops M D
  pi : PInv call P N ops M D T0 n0 ops.size Te all cur E R
  back : ∀ (i : Nat) (o : Oper) (v : Value) (T : Tr Value), ops[i]? = some o → R.get i = some (.val v) → (∀ t, T.get t = TAt D R T0 i t) → wants ops T o = some true → ∀ (k : Nat) (s : St), all[k]? = some s → adm E M i k = true → quiet P o.op T s.h = some v
  part : ∀ (i : Nat) (o : Oper) (b : Bool) (T : Tr Value), ops[i]? = some o → R.get i = some (.frk b) → (∀ t, T.get t = TAt D R T0 i t) → wants ops T o = some true → ∀ (k : Nat) (s : St), all[k]? = some s → adm E M i k = true → ∃ u, quiet P o.op T s.h = some u ∧ isUnk u = true
def HdH (R : Tr Rec) (n0 n : Nat) (E M : List Nat) (listed : Array Bool) (k : Nat) (s : St) : St := ⟨s.next, rowsOf R n0 (fun l => listed.getD l false && !matd (E.take k) M l) (List.range n) s.h⟩
def TD (D : Tr Nat) (R : Tr Rec) (T0 : Tr Value) (listed : Array Bool) (t : Nat) : Option Value :=
  match D.get t with
  | some q => if listed.getD q false = true then (R.get q).map Rec.v else T0.get t
  | none => T0.get t
/-- Where the region stands: which operations have come, and the world. -/
structure DInv (ds : List Deferred) (P : Program) (B : Ctx) (N : Nat) (ops : Array Oper) (M : List Nat) (D : Tr Nat) (T0 : Tr Value) (s0 : St) (all : List St) (E : List Nat) (R : Tr Rec) (σ0 : Sg) (w0 : World) (listed : Array Bool) (a : Act) (w : World) (σ : Sg) (k : Nat) (s : St) : Prop where
  size : listed.size = ops.size
  closed : ∀ (j : Nat) (o : Oper), ops[j]? = some o → listed.getD j false = true → ∀ e ∈ o.after.toList, Region.binds .any e = true → listed.getD e.on false = true
  stage : all[k]? = some s
  effs : ∀ (c e : Nat), E[c]? = some e → (listed.getD e false = true ↔ c < k)
  inv : Inv P B σ (HdH R s0.next ops.size E M listed k s) w
  empty : ∀ (l : Nat) (v : Value) (ob : AObj), R.get l = some (.alc v ob) → l < ops.size → matd (E.take k) M l = false → s.h.get (s0.next + l) = none
  low : s0.next + ops.size ≤ s.next
  keep : ∀ x, x < s0.next → s0.h.get x = none → s.h.get x = none
  ext : σ.ext = σ0.ext
  old : ∀ y, y < s0.next → σ y = σ0 y
  fresh : ∀ l, l < ops.size → listed.getD l false = false → σ (s0.next + l) = none
  fr : Fr (Foot σ0 s0) w0 w
  sub : ∀ b, b < w0.heap.size → Foot σ (HdH R s0.next ops.size E M listed k s) b → Foot σ0 s0 b
  slots : TR ds σ N .leaf a
  held : ∀ t v, TD D R T0 listed t = some v → ∃ v', a.tmps[t]? = some v' ∧ VR σ v v'
section
variable {call : CallF} {P : Program} {B : Ctx} {ds : List Deferred} {ρ : Option Nat} {N : Nat} {ops : Array Oper} {M : List Nat} {D : Tr Nat} {T0 : Tr Value} {s0 : St} {Te : Tr Value} {all : List St} {cur : St} {E : List Nat} {R : Tr Rec} {σ0 : Sg} {w0 : World} {listed : Array Bool} {a : Act} {w : World} {σ : Sg} {k : Nat} {s : St}
theorem listed_set (listed : Array Bool) (i j : Nat) (hi : i < listed.size) : (listed.setIfInBounds i true).getD j false = (decide (j = i) || listed.getD j false) := by
  by_cases h : j = i
  · subst h; simp [hi]
  · rw [getD_set_ne false (fun e => h e.symm)]; simp [h]
theorem TD_set (ran : Ran call P N ops M D T0 s0.next Te all cur E R) {i : Nat} {o : Oper} (ho : ops[i]? = some o) (hs : listed.size = ops.size) {rec : Rec} (hr : R.get i = some rec) (t : Nat) : TD D R T0 (listed.setIfInBounds i true) t = if o.dst = some t then some rec.v else TD D R T0 listed t := by
  have hi : i < listed.size := by rw [hs]; exact (Array.getElem?_eq_some_iff.1 ho).1
  unfold TD
  by_cases hd : o.dst = some t
  · rw [if_pos hd, (ran.st.dst t i).2 ⟨o, ho, hd⟩]
    simp only []
    rw [listed_set listed i i hi]
    simp [hr]
  · rw [if_neg hd]
    split
    · rename_i q hq
      have hqi : q ≠ i := fun e => by
        subst e
        obtain ⟨o', h1, h2⟩ := (ran.st.dst t q).1 hq
        rw [ho] at h1; cases h1
        exact hd h2
      rw [listed_set listed i q hi]
      simp [hqi]
    · rfl
/-- What an operation looks at is there as it was seen. -/
theorem looks_held (ran : Ran call P N ops M D T0 s0.next Te all cur E R) (d : DInv ds P B N ops M D T0 s0 all E R σ0 w0 listed a w σ k s) {i : Nat} {o : Oper} (ho : ops[i]? = some o) (hun : listed.getD i false = false) (hall : ∀ e ∈ o.after.toList, Region.binds .any e = true → listed.getD e.on false = true)
    {T : Tr Value} (hT : ∀ t, T.get t = TAt D R T0 i t) : TR ds σ N (restr T (o.looksAt ops)) a := by
  refine ⟨d.slots.size, d.slots.defers, fun t v hv => ?_⟩
  rw [restr_get] at hv
  split at hv
  · rename_i ht
    rw [hT] at hv
    refine d.held t v ?_
    unfold TAt at hv
    unfold TD
    cases hD : D.get t with
    | none => rw [hD] at hv; exact hv
    | some q =>
      rw [hD] at hv
      simp only [] at hv ⊢
      obtain ⟨p, hp, _⟩ := (ran.st.dst t q).1 hD
      have hq := (Array.getElem?_eq_some_iff.1 hp).1
      rcases ran.st.looks i o ho t ht q hD with hm | hm
      · have hlt := ran.st.lt i (Array.getElem?_eq_some_iff.1 ho).1 q hm
        have hl := ran.st.come (listed := fun j => listed.getD j false = true) d.closed i o ho hall q hm
        rw [if_pos hlt] at hv
        rw [if_pos hl]
        exact hv
      · have hlt := ran.st.lt q hq i hm
        rw [if_neg (by omega)] at hv
        rw [if_neg]
        · exact hv
        · intro hl
          have := ran.st.come (listed := fun j => listed.getD j false = true) d.closed q p hp (d.closed q p hp hl) i hm
          rw [hun] at this; cases this
  · cases hv
theorem restr_looks (T : Tr Value) (o : Oper) : ∀ t ∈ o.looksAt ops, (restr T (o.looksAt ops)).get t = T.get t := fun t ht => by rw [restr_get, if_pos ht]
/-- One more has come that leaves the heap's rows alone. -/
theorem held_put (ran : Ran call P N ops M D T0 s0.next Te all cur E R) (d : DInv ds P B N ops M D T0 s0 all E R σ0 w0 listed a w σ k s) {i : Nat} {o : Oper} (ho : ops[i]? = some o) {rec : Rec} (hr : R.get i = some rec) (hN : ∀ x, o.dst = some x → x < N)
    {τ : Sg} (hle : σ.le τ) {v' : Value} (hv : VR τ rec.v v') : TR ds τ N .leaf (a.put o.dst v') ∧ ∀ t v, TD D R T0 (listed.setIfInBounds i true) t = some v → ∃ u, (a.put o.dst v').tmps[t]? = some u ∧ VR τ v u := by
  have hsz : (a.put o.dst v').tmps.size = N := by
    cases hd : o.dst with
    | none => exact d.slots.size
    | some x => simp [Act.put, d.slots.size]
  have hdef : (a.put o.dst v').defers = ds := by
    cases hd : o.dst with
    | none => exact d.slots.defers
    | some x => exact d.slots.defers
  refine ⟨⟨hsz, hdef, fun t v h => nomatch h⟩, fun t v h => ?_⟩
  rw [TD_set ran ho d.size hr t] at h
  split at h
  · rename_i hd
    cases h
    refine ⟨v', ?_, hv⟩
    rw [hd]
    have := hN t hd
    simp [Act.put, d.slots.size, this]
  · rename_i hd
    obtain ⟨u, h1, h2⟩ := d.held t v h
    refine ⟨u, ?_, h2.mono hle⟩
    cases hx : o.dst with
    | none => exact h1
    | some x =>
      simp only [Act.put]
      rw [Array.getElem?_setIfInBounds_ne (fun e => hd (by rw [hx, e]))]
      exact h1
theorem closed_set (d : DInv ds P B N ops M D T0 s0 all E R σ0 w0 listed a w σ k s) {i : Nat} {o : Oper} (ho : ops[i]? = some o) (hall : ∀ e ∈ o.after.toList, Region.binds .any e = true → listed.getD e.on false = true) :
    ∀ (j : Nat) (o : Oper), ops[j]? = some o → (listed.setIfInBounds i true).getD j false = true → ∀ e ∈ o.after.toList, Region.binds .any e = true → (listed.setIfInBounds i true).getD e.on false = true := by
  have hi : i < listed.size := by rw [d.size]; exact (Array.getElem?_eq_some_iff.1 ho).1
  intro j p hp hj e he hb
  rw [listed_set listed i _ hi] at hj ⊢
  by_cases hji : j = i
  · subst hji
    rw [ho] at hp; cases hp
    rw [hall e he hb]; simp
  · have : listed.getD j false = true := by simpa [hji] using hj
    rw [d.closed j p hp this e he hb]; simp
/-- A computation or a read has come. -/
theorem come_val (ran : Ran call P N ops M D T0 s0.next Te all cur E R) (d : DInv ds P B N ops M D T0 s0 all E R σ0 w0 listed a w σ k s) {i : Nat} {o : Oper} (ho : ops[i]? = some o) (hall : ∀ e ∈ o.after.toList, Region.binds .any e = true → listed.getD e.on false = true)
    {rec : Rec} (hr : R.get i = some rec) (hna : ∀ u ob, rec ≠ .alc u ob) (hnf : ∀ u, rec ≠ .eff u) (hN : ∀ x, o.dst = some x → x < N) {v' : Value} (hv : VR σ rec.v v') : DInv ds P B N ops M D T0 s0 all E R σ0 w0 (listed.setIfInBounds i true) (a.put o.dst v') w σ k s := by
  have hi : i < listed.size := by rw [d.size]; exact (Array.getElem?_eq_some_iff.1 ho).1
  obtain ⟨h1, h2⟩ := held_put ran d ho hr hN (Sg.le_refl σ) (v' := v') hv
  have hget : ∀ x, (HdH R s0.next ops.size E M (listed.setIfInBounds i true) k s).h.get x = (HdH R s0.next ops.size E M listed k s).h.get x := by
    intro x
    unfold HdH
    simp only []
    rcases rowsOf_cases (R := R) (n0 := s0.next) (c := fun l => (listed.setIfInBounds i true).getD l false && !matd (E.take k) M l) (List.range ops.size) s.h x with ⟨q, u, ob, q1, rfl, q3, q4, q5⟩ | ⟨q1, q2⟩
    · have hqi : q ≠ i := fun e => by subst e; rw [hr] at q4; cases q4; exact hna _ _ rfl
      rw [q5, rowsOf_in _ _ q u ob q1 (by rw [listed_set listed i q hi] at q3; simpa [hqi] using q3) q4]
    · rw [q2, rowsOf_out]
      intro q hq he hc u ob
      exact q1 q hq he (by rw [listed_set listed i q hi]; simp only [Bool.and_eq_true] at hc ⊢; exact ⟨by rw [hc.1]; simp, hc.2⟩) u ob
  have hne : ∀ (c e : Nat), E[c]? = some e → e ≠ i := fun c e he h => by
    obtain ⟨_, u, hu⟩ := ran.pi.effs c e he
    rw [h, hr] at hu; cases hu; exact hnf _ rfl
  refine ⟨by simp [d.size], closed_set d ho hall, d.stage, fun c e he => ?_, d.inv.drop (fun x o h => by rw [hget] at h; exact h) d.inv.dom, d.empty, d.low, d.keep, d.ext, d.old, fun l hl hn => ?_, d.fr, fun b hb hf => d.sub b hb (Foot.drop (fun x o h => by rw [hget] at h; exact h) hf), h1, h2⟩
  · rw [listed_set listed i e hi]
    simp only [hne c e he, decide_false, Bool.false_or]
    exact d.effs c e he
  · rw [listed_set listed i l hi] at hn
    simp only [Bool.or_eq_false_iff] at hn
    exact d.fresh l hl hn.2
/-- An allocation has come. -/
theorem come_alc (ran : Ran call P N ops M D T0 s0.next Te all cur E R) (d : DInv ds P B N ops M D T0 s0 all E R σ0 w0 listed a w σ k s) {i : Nat} {o : Oper} (ho : ops[i]? = some o) (hun : listed.getD i false = false) (hall : ∀ e ∈ o.after.toList, Region.binds .any e = true → listed.getD e.on false = true)
    {v : Value} {ob : AObj} (hr : R.get i = some (.alc v ob)) (hN : ∀ x, o.dst = some x → x < N) {v' : Value} {obj : Obj} (hv : VR (σ.put (s0.next + i) w.heap.size 0) v v') (hob : ObjR P (σ.put (s0.next + i) w.heap.size 0) 0 ob (some obj)) :
    DInv ds P B N ops M D T0 s0 all E R σ0 w0 (listed.setIfInBounds i true) (a.put o.dst v') (w.alloc obj) (σ.put (s0.next + i) w.heap.size 0) k s := by
  have hin : i < ops.size := (Array.getElem?_eq_some_iff.1 ho).1
  have hi : i < listed.size := by rw [d.size]; exact hin
  have hnone := d.fresh i hin hun
  have hle := Sg.le_put (b := w.heap.size) (κ := 0) hnone
  have hmat : matd (E.take k) M i = false := by
    unfold matd
    rw [List.any_eq_false]
    intro e he
    obtain ⟨c, hc⟩ := List.getElem?_of_mem he
    rw [List.getElem?_take] at hc
    split at hc
    · rename_i hck
      have hl := (d.effs c e hc).2 hck
      obtain ⟨hen, u, hu⟩ := ran.pi.effs c e hc
      intro hbit
      have hoe : ops[e]? = some ops[e] := Array.getElem?_eq_getElem hen
      have := ran.st.come (listed := fun j => listed.getD j false = true) d.closed e _ hoe (d.closed e _ hoe hl) i hbit
      rw [hun] at this; cases this
    · cases hc
  obtain ⟨h1, h2⟩ := held_put ran d ho hr hN hle (v' := v') hv
  have hget : ∀ x, (HdH R s0.next ops.size E M (listed.setIfInBounds i true) k s).h.get x = if x = s0.next + i then some ob else (HdH R s0.next ops.size E M listed k s).h.get x := by
    intro x
    unfold HdH
    simp only []
    split
    · rename_i hx
      subst hx
      exact rowsOf_in _ _ i v ob (List.mem_range.2 hin) (by rw [listed_set listed i i hi, hmat]; simp) hr
    · rename_i hx
      rcases rowsOf_cases (R := R) (n0 := s0.next) (c := fun l => (listed.setIfInBounds i true).getD l false && !matd (E.take k) M l) (List.range ops.size) s.h x with ⟨q, u, ob', q1, rfl, q3, q4, q5⟩ | ⟨q1, q2⟩
      · have hqi : q ≠ i := fun e => hx (by rw [e])
        rw [q5, rowsOf_in _ _ q u ob' q1 (by rw [listed_set listed i q hi] at q3; simpa [hqi] using q3) q4]
      · rw [q2, rowsOf_out]
        intro q hq he hc u ob
        exact q1 q hq he (by rw [listed_set listed i q hi]; simp only [Bool.and_eq_true] at hc ⊢; exact ⟨by rw [hc.1]; simp, hc.2⟩) u ob
  have hne : ∀ (c e : Nat), E[c]? = some e → e ≠ i := fun c e he h => by
    obtain ⟨_, u, hu⟩ := ran.pi.effs c e he
    rw [h, hr] at hu; cases hu
  have hlow := d.low
  refine ⟨by simp [d.size], closed_set d ho hall, d.stage, fun c e he => ?_, inv_add d.inv hnone hob hget (Nat.le_refl _) (by show _ < s.next; omega), d.empty, d.low, d.keep, d.ext, fun y hy => by rw [Sg.put_other (by omega)]; exact d.old y hy, fun l hl hn => ?_, d.fr.alloc _, fun b hb hf => ?_, h1, h2⟩
  · rw [listed_set listed i e hi]
    simp only [hne c e he, decide_false, Bool.false_or]
    exact d.effs c e he
  · rw [listed_set listed i l hi] at hn
    simp only [Bool.or_eq_false_iff, decide_eq_false_iff_not] at hn
    rw [Sg.put_other (by omega)]
    exact d.fresh l hl hn.2
  · obtain ⟨x, o1, κ, q1, q2⟩ := hf
    rw [hget] at q1
    split at q1
    · rename_i hx
      subst hx
      rw [Sg.put_same] at q2
      simp only [Option.some.injEq, Prod.mk.injEq] at q2
      have := d.fr.size
      omega
    · rename_i hx
      rw [Sg.put_other hx] at q2
      exact d.sub b hb ⟨x, o1, κ, q1, q2⟩
theorem matd_succ {i l : Nat} (he : E[k]? = some i) : matd (E.take (k + 1)) M l = (matd (E.take k) M l || (M.getD i 0).testBit l) := by
  unfold matd
  rw [List.take_add_one, he, List.any_append]
  simp
/-- A call, a store, an append has come. -/
theorem come_eff (ran : Ran call P N ops M D T0 s0.next Te all cur E R) (d : DInv ds P B N ops M D T0 s0 all E R σ0 w0 listed a w σ k s) {i : Nat} {o : Oper} (ho : ops[i]? = some o) (hall : ∀ e ∈ o.after.toList, Region.binds .any e = true → listed.getD e.on false = true)
    {v : Value} (hr : R.get i = some (.eff v)) (hN : ∀ x, o.dst = some x → x < N) (hEk : E[k]? = some i) {s' H' : St} (hs' : all[k + 1]? = some s') (hH : H' = ⟨s.next, rowsOf R s0.next (fun l => (M.getD i 0).testBit l && !matd (E.take k) M l) (rng ops i) s.h⟩)
    (hsubH : ∀ x o, H'.h.get x = some o → (HdH R s0.next ops.size E M listed k s).h.get x = some o) {τ : Sg} {w' : World} (hst : Stp P B σ H' w τ s' w') {v' : Value} (hv : VR τ v v') :
    DInv ds P B N ops M D T0 s0 all E R σ0 w0 (listed.setIfInBounds i true) (a.put o.dst v') w' τ (k + 1) s' := by
  have hin : i < ops.size := (Array.getElem?_eq_some_iff.1 ho).1
  have hi : i < listed.size := by rw [d.size]; exact hin
  have hH'n : H'.next = s.next := by rw [hH]
  have hH'i : Inv P B σ H' w := d.inv.drop hsubH (fun x hx => d.inv.dom x (by rw [hH'n] at hx; exact hx))
  have hle := hst.le hH'i
  have hlow := d.low
  have hsn : s.next ≤ s'.next := by have := hst.nle; rw [hH'n] at this; exact this
  obtain ⟨h1, h2⟩ := held_put ran d ho hr hN hle (v' := v') hv
  -- what stands in the heap of the next stage
  have pend : ∀ x, (∃ ob, (HdH R s0.next ops.size E M (listed.setIfInBounds i true) (k + 1) s').h.get x = some ob ∧ (HdH R s0.next ops.size E M listed k s).h.get x = some ob ∧ H'.h.get x = none ∧ x < s.next) ∨ (HdH R s0.next ops.size E M (listed.setIfInBounds i true) (k + 1) s').h.get x = s'.h.get x := by
    intro x
    unfold HdH
    simp only []
    rcases rowsOf_cases (R := R) (n0 := s0.next) (c := fun l => (listed.setIfInBounds i true).getD l false && !matd (E.take (k + 1)) M l) (List.range ops.size) s'.h x with ⟨q, u, ob, q1, rfl, q3, q4, q5⟩ | ⟨q1, q2⟩
    · left
      have hqn := List.mem_range.1 q1
      have hqi : q ≠ i := fun e => by subst e; rw [hr] at q4; cases q4
      simp only [listed_set listed i q hi, hqi, decide_false, Bool.false_or, Bool.and_eq_true, Bool.not_eq_true', matd_succ hEk, Bool.or_eq_false_iff] at q3
      obtain ⟨a1, a2, a3⟩ := q3
      refine ⟨ob, q5, rowsOf_in _ _ q u ob q1 (by simp [a1, a2]) q4, ?_, by omega⟩
      rw [hH]
      simp only []
      rw [rowsOf_out]
      · exact d.empty q u ob q4 hqn a2
      · intro p hp he hc u2 ob2
        have : q = p := by omega
        subst this
        rw [a3] at hc
        simp at hc
    · right
      exact q2
  -- a pending row's block is not among those of the effect's heap
  have apart : ∀ {x b κ : Nat} {ob : AObj}, (HdH R s0.next ops.size E M listed k s).h.get x = some ob → σ x = some (b, κ) → H'.h.get x = none → ¬ Foot σ H' b := by
    intro x b κ ob g1 g2 g3 hf
    obtain ⟨y, o1, κ1, f1, f2⟩ := hf
    have := d.inv.inj x y _ _ b κ κ1 g1 (hsubH y o1 f1) g2 f2
    subst this
    rw [g3] at f1; cases f1
  refine ⟨by simp [d.size], closed_set d ho hall, hs', fun c e he => ?_, ⟨hst.inv.base, hst.inv.own, hst.inv.dom, fun x ob hx => ?_, fun x y o1 o2 b κ κ' g1 g2 g3 g4 => ?_⟩, fun l u ob g1 g2 g3 => ?_, by omega, fun x hx hn => ?_, hst.ext.trans d.ext, fun y hy => ?_, fun l hl hn => ?_, d.fr.trans hst.fr (fun b hb hf => d.sub b hb (Foot.drop hsubH hf)), fun b hb hf => ?_, h1, h2⟩
  · rw [listed_set listed i e hi]
    by_cases hei : e = i
    · subst hei
      have := ran.pi.once c k e he hEk
      simp [this]
    · simp only [hei, decide_false, Bool.false_or]
      rw [d.effs c e he]
      constructor
      · intro h; omega
      · intro h
        have hck : c ≠ k := fun e' => by
          subst e'
          rw [hEk] at he; cases he
          exact hei rfl
        omega
  · rcases pend x with ⟨ob', q1, q2, q3, q4⟩ | q1
    · rw [q1] at hx; cases hx
      obtain ⟨b, κ, r1, r2, r3⟩ := d.inv.live x _ q2
      refine ⟨b, κ, hle.1 x _ r1, r2, ?_⟩
      rw [hst.fr.block b (d.inv.lt q2 r1) (apart q2 r1 q3)]
      exact r3.mono hle
    · rw [q1] at hx
      exact hst.inv.live x ob hx
  · rcases pend x with ⟨ob1, p1, p2, p3, p4⟩ | p1
    · have hx' : σ x = some (b, κ) := by rw [← hst.old x (by rw [hH'n]; exact p4)]; exact g3
      rcases pend y with ⟨ob2, q1, q2, q3, q4⟩ | q1
      · have hy' : σ y = some (b, κ') := by rw [← hst.old y (by rw [hH'n]; exact q4)]; exact g4
        exact d.inv.inj x y _ _ b κ κ' p2 q2 hx' hy'
      · rw [q1] at g2
        exact absurd (hst.sub b (d.inv.lt p2 hx') ⟨y, _, _, g2, g4⟩) (apart p2 hx' p3)
    · rw [p1] at g1
      rcases pend y with ⟨ob2, q1, q2, q3, q4⟩ | q1
      · have hy' : σ y = some (b, κ') := by rw [← hst.old y (by rw [hH'n]; exact q4)]; exact g4
        exact absurd (hst.sub b (d.inv.lt q2 hy') ⟨x, _, _, g1, g3⟩) (apart q2 hy' q3)
      · rw [q1] at g2
        exact hst.inv.inj x y _ _ b κ κ' g1 g2 g3 g4
  · rw [matd_succ hEk, Bool.or_eq_false_iff] at g3
    refine hst.keep _ (by rw [hH'n]; omega) ?_
    rw [hH]
    simp only []
    rw [rowsOf_out]
    · exact d.empty l u ob g1 g2 g3.1
    · intro p hp he hc
      have : l = p := by omega
      subst this
      rw [g3.2] at hc
      simp at hc
  · refine hst.keep x (by rw [hH'n]; omega) ?_
    rw [hH]
    simp only []
    rw [rowsOf_out]
    · exact d.keep x hx hn
    · intro p hp he; omega
  · rw [hst.old y (by rw [hH'n]; omega)]; exact d.old y hy
  · rw [listed_set listed i l hi] at hn
    simp only [Bool.or_eq_false_iff] at hn
    rw [hst.old _ (by rw [hH'n]; omega)]
    exact d.fresh l hl hn.2
  · obtain ⟨x, ob, κ, g1, g2⟩ := hf
    rcases pend x with ⟨ob1, p1, p2, p3, p4⟩ | p1
    · exact d.sub b hb ⟨x, ob1, κ, p2, by rw [← hst.old x (by rw [hH'n]; exact p4)]; exact g2⟩
    · rw [p1] at g1
      exact d.sub b hb (Foot.drop hsubH (hst.sub b (Nat.lt_of_lt_of_le hb d.fr.size) ⟨x, ob, κ, g1, g2⟩))
/-- Which operations wait still. -/
def unl (n : Nat) (listed : Array Bool) : Nat := (List.range n).countP fun j => !listed.getD j false
theorem unl_set {n i : Nat} (hn : i < n) (hs : listed.size = n) (hu : listed.getD i false = false) : unl n (listed.setIfInBounds i true) + 1 ≤ unl n listed := by
  refine countP_lt _ (fun x _ hx => ?_) ⟨i, List.mem_range.2 hn, by simp [hu], ?_⟩
  · rw [listed_set listed i x (by omega)] at hx
    simp at hx ⊢
    exact hx.2
  · rw [listed_set listed i i (by omega)]; simp
theorem getD_true_false {l : Array Bool} {i : Nat} (h : i < l.size) : l.getD i true = l.getD i false := by simp [h]
theorem all_listed (d : DInv ds P B N ops M D T0 s0 all E R σ0 w0 listed a w σ k s) (st : Stat ops M D) (h : Region.ready .any ops listed = []) : ∀ i, i < ops.size → listed.getD i false = true := by
  intro i
  induction i using Nat.strongRecOn with
  | _ i ih =>
    intro hi
    cases hl : listed.getD i false with
    | true => rfl
    | false =>
      have ho : ops[i]? = some ops[i] := Array.getElem?_eq_getElem hi
      have : i ∈ Region.ready .any ops listed := by
        refine mem_ready.2 ⟨by rw [getD_true_false (by rw [d.size]; exact hi)]; exact hl, _, ho, fun e he hb => ?_⟩
        have hlt := st.back i _ ho e (by simpa using he) hb
        exact ih e.on hlt (by omega)
      rw [h] at this
      cases this
theorem draw_end (ran : Ran call P N ops M D T0 s0.next Te all cur E R) (d : DInv ds P B N ops M D T0 s0 all E R σ0 w0 listed a w σ k s) (h : ∀ i, i < ops.size → listed.getD i false = true) :
    Left P B ds σ0 s0 w0 N Te ⟨cur.next, rowsOf R s0.next (fun l => !matd E M l) (rng ops ops.size) cur.h⟩ a w := by
  have hk : k = E.length := by
    have h1 : k < all.length := (List.getElem?_eq_some_iff.1 d.stage).1
    have h2 := ran.pi.len
    by_cases hlt : k < E.length
    · have he : E[k]? = some E[k] := List.getElem?_eq_getElem hlt
      have := (d.effs k _ he).1 (h _ (ran.pi.effs k _ he).1)
      omega
    · omega
  have hcur : s = cur := by
    have := d.stage
    rw [hk, ran.pi.last] at this
    cases this; rfl
  subst hcur
  have hsub : ∀ x o, (rowsOf R s0.next (fun l => !matd E M l) (rng ops ops.size) s.h).get x = some o → (HdH R s0.next ops.size E M listed k s).h.get x = some o := by
    intro x o hx
    unfold HdH
    simp only []
    rw [hk, List.take_length]
    rcases rowsOf_cases (R := R) (n0 := s0.next) (c := fun l => !matd E M l) (rng ops ops.size) s.h x with ⟨q, u, ob, q1, rfl, q3, q4, q5⟩ | ⟨q1, q2⟩
    · rw [q5] at hx; cases hx
      rw [rowsOf_in _ _ q u _ (List.mem_range.2 (rng_lt q1)) (by simp only [Bool.and_eq_true]; exact ⟨h q (rng_lt q1), q3⟩) q4]
    · rw [q2] at hx
      rcases rowsOf_cases (R := R) (n0 := s0.next) (c := fun l => listed.getD l false && !matd E M l) (List.range ops.size) s.h x with ⟨q, u, ob', p1, rfl, p3, p4, p5⟩ | ⟨p1, p2⟩
      · simp only [Bool.and_eq_true, Bool.not_eq_true'] at p3
        rw [d.empty q u ob' p4 (List.mem_range.1 p1) (by rw [hk, List.take_length]; exact p3.2)] at hx
        cases hx
      · rw [p2]; exact hx
  refine ⟨σ, ⟨d.slots.size, d.slots.defers, fun t v hv => ?_⟩, ⟨d.inv.drop hsub d.inv.dom, d.old, by have := d.low; show s0.next ≤ s.next; omega, d.fr, fun b hb hf => d.sub b hb (Foot.drop hsub hf), fun x hx hn => ?_, d.ext⟩⟩
  · refine d.held t v ?_
    rw [ran.pi.slots t] at hv
    unfold TAt at hv
    unfold TD
    cases hD : D.get t with
    | none => rw [hD] at hv; exact hv
    | some q =>
      rw [hD] at hv
      simp only [] at hv ⊢
      obtain ⟨o', h1, _⟩ := (ran.st.dst t q).1 hD
      have hq := (Array.getElem?_eq_some_iff.1 h1).1
      rw [if_pos hq] at hv
      rw [if_pos (h q hq)]
      exact hv
  · show (rowsOf R s0.next (fun l => !matd E M l) (rng ops ops.size) s.h).get x = none
    rw [rowsOf_out]
    · exact d.keep x hx hn
    · intro q hq he; omega
theorem adm_now (ran : Ran call P N ops M D T0 s0.next Te all cur E R) (d : DInv ds P B N ops M D T0 s0 all E R σ0 w0 listed a w σ k s) {i : Nat} {o : Oper} (ho : ops[i]? = some o) (hun : listed.getD i false = false) (hall : ∀ e ∈ o.after.toList, Region.binds .any e = true → listed.getD e.on false = true) : adm E M i k = true := by
  unfold adm
  rw [List.all_eq_true]
  rintro ⟨e, c⟩ hec
  have he : E[c]? = some e := by
    have := List.mem_zipIdx_iff_getElem?.1 hec
    simpa using this
  simp only []
  split
  · rename_i hck
    have hl := (d.effs c e he).2 hck
    have hen := (ran.pi.effs c e he).1
    have hoe : ops[e]? = some ops[e] := Array.getElem?_eq_getElem hen
    cases hb : (M.getD e 0).testBit i with
    | false => rfl
    | true =>
      have := ran.st.come (listed := fun j => listed.getD j false = true) d.closed e _ hoe (d.closed e _ hoe hl) i hb
      rw [hun] at this; cases this
  · rename_i hck
    cases hb : (M.getD i 0).testBit e with
    | false => rfl
    | true =>
      have := ran.st.come (listed := fun j => listed.getD j false = true) d.closed i o ho hall e hb
      exact absurd ((d.effs c e he).1 this) hck
theorem rowsOf_congr2 {R R' : Tr Rec} {n0 : Nat} {c c' : Nat → Bool} : ∀ (l : List Nat) (h : Tr AObj), (∀ q ∈ l, c' q = c q) → (∀ q ∈ l, c q = true → R'.get q = R.get q) → rowsOf R' n0 c' l h = rowsOf R n0 c l h
  | [], _, _, _ => rfl
  | q :: l, h, hc, hq => by
    have ih : ∀ h, rowsOf R' n0 c' l h = rowsOf R n0 c l h := fun h => rowsOf_congr2 l h (fun x hx => hc x (List.mem_cons_of_mem _ hx)) (fun x hx => hq x (List.mem_cons_of_mem _ hx))
    unfold rowsOf
    rw [hc q List.mem_cons_self]
    cases hcq : c q with
    | true =>
      rw [hq q List.mem_cons_self hcq]
      split
      · simp only [if_true]; exact ih _
      · exact ih _
    | false =>
      have e1 : ∀ (X : Option Rec), (match X with | some (.alc _ ob) => if false = true then rowsOf R' n0 c' l (h.set 40 (n0 + q) (some ob)) else rowsOf R' n0 c' l h | _ => rowsOf R' n0 c' l h) = rowsOf R n0 c l h := by
        intro X
        split
        · simp only [Bool.false_eq_true, if_false]; exact ih _
        · exact ih _
      have e2 : ∀ (X : Option Rec), (match X with | some (.alc _ ob) => if false = true then rowsOf R n0 c l (h.set 40 (n0 + q) (some ob)) else rowsOf R n0 c l h | _ => rowsOf R n0 c l h) = rowsOf R n0 c l h := by
        intro X
        split
        · simp only [Bool.false_eq_true, if_false]
        · rfl
      exact (e1 _).trans (e2 _).symm
/-- As long as the parting has not come, it may yet go the other way. -/
theorem DInv.move {T9 : Tr Value} {all' : List St} {cur' : St} {E' : List Nat} {R' : Tr Rec} (ran : Ran call P N ops M D T0 s0.next Te all cur E R) (ran' : Ran call P N ops M D T0 s0.next T9 all' cur' E' R') (d : DInv ds P B N ops M D T0 s0 all E R σ0 w0 listed a w σ k s) {i : Nat} (hi : i < ops.size) (hun : listed.getD i false = false)
    (hag : Agr M ops.size i (Te, all, cur, E, R) (T9, all', cur', E', R')) : DInv ds P B N ops M D T0 s0 all' E' R' σ0 w0 listed a w σ k s ∧ (∀ q, q < ops.size → listed.getD q false = true → R.get q = R'.get q) ∧ E'.take k = E.take k := by
  obtain ⟨c, g1, g2, g3, g4, g5⟩ := hag
  simp only [] at g1 g2 g3 g4 g5
  have hdep : ∀ e, e < ops.size → listed.getD e false = true → (M.getD e 0).testBit i = false := fun e he hl => by
    cases hb : (M.getD e 0).testBit i with
    | false => rfl
    | true =>
      have hoe : ops[e]? = some ops[e] := Array.getElem?_eq_getElem he
      have := ran.st.come (listed := fun j => listed.getD j false = true) d.closed e _ hoe (d.closed e _ hoe hl) i hb
      rw [hun] at this; cases this
  have hR : ∀ q, q < ops.size → listed.getD q false = true → R.get q = R'.get q := fun q hq hl => g5 q hq (fun e => by subst e; rw [hun] at hl; cases hl) (hdep q hq hl)
  have hkE : k ≤ E.length := by
    have h1 := (List.getElem?_eq_some_iff.1 d.stage).1
    have h2 := ran.pi.len
    omega
  have hkc : k ≤ c := by
    by_cases h : k ≤ c
    · exact h
    · exfalso
      have hc : E[c]? = some E[c] := List.getElem?_eq_getElem (by omega)
      have h1 := (d.effs c _ hc).2 (by omega)
      have h2 := hdep _ (ran.pi.effs c _ hc).1 h1
      rcases g3 c _ (Nat.le_refl _) hc with h3 | h3
      · rw [h3, hun] at h1
        cases h1
      · rw [h3] at h2
        cases h2
  have htake : E'.take k = E.take k := by
    apply List.ext_getElem?
    intro j
    rw [List.getElem?_take, List.getElem?_take]
    split
    · rw [g2 j (by omega)]
    · rfl
  have hHd : HdH R' s0.next ops.size E' M listed k s = HdH R s0.next ops.size E M listed k s := by
    unfold HdH
    rw [htake]
    congr 1
    refine rowsOf_congr2 _ _ (fun _ _ => rfl) fun q hq hc => ?_
    rw [Bool.and_eq_true] at hc
    exact (hR q (List.mem_range.1 hq) hc.1).symm
  have hTD : ∀ t, TD D R' T0 listed t = TD D R T0 listed t := fun t => by
    unfold TD
    split
    · rename_i q hq
      split
      · rename_i hl
        obtain ⟨p, hp, _⟩ := (ran.st.dst t q).1 hq
        rw [hR q (Array.getElem?_eq_some_iff.1 hp).1 hl]
      · rfl
    · rfl
  refine ⟨?_, hR, htake⟩
  refine ⟨d.size, d.closed, by rw [← g1 k hkc]; exact d.stage, fun c0 e he => ?_, by rw [hHd]; exact d.inv, fun l v ob hl hls hm => ?_, d.low, d.keep, d.ext, d.old, d.fresh, d.fr, fun b hb hf => d.sub b hb (by rw [← hHd]; exact hf), d.slots, fun t v h => d.held t v (by rw [← hTD]; exact h)⟩
  · by_cases h : c0 < c
    · exact d.effs c0 e (by rw [g2 c0 h]; exact he)
    · have h1 := g4 c0 e (by omega) he
      refine ⟨fun hl => ?_, fun hc => by omega⟩
      have := hdep e (ran'.pi.effs c0 e he).1 hl
      rcases h1 with h1 | h1
      · rw [h1, hun] at hl; cases hl
      · rw [h1] at this; cases this
  · cases hll : listed.getD l false with
    | true => exact d.empty l v ob (by rw [hR l hls hll]; exact hl) hls (by rw [← htake]; exact hm)
    | false =>
      cases hg : s.h.get (s0.next + l) with
      | none => rfl
      | some o =>
        exfalso
        have hx : (HdH R s0.next ops.size E M listed k s).h.get (s0.next + l) = some o := by
          unfold HdH
          simp only []
          rw [rowsOf_out]
          · exact hg
          · intro q hq he hc
            have : l = q := by omega
            subst this
            rw [hll] at hc; cases hc
        obtain ⟨b, κ, q1, _⟩ := d.inv.live _ o hx
        rw [d.fresh l hls hll] at q1
        cases q1
theorem unk_bool {u v' : Value} (h : isUnk u = true) (hv : VR σ u v') : ∃ b, v' = .bool b := by
  cases hv <;> first | exact ⟨_, rfl⟩ | (simp [isUnk] at h; done)
/-- Whatever order comes. -/
theorem draw_any (hcall : CallOK P B call) {L : List Leaf} (hran : ∀ x ∈ L, Ran call P N ops M D T0 s0.next x.1 x.2.1 x.2.2.1 x.2.2.2.1 x.2.2.2.2) (hcl : ForkC M ops.size 0 ops.size L) (hce : ForkE call P ops M D T0 s0.next 0 ops.size L) {Q : Exit → Act → World → Prop} (hQ : ∀ x ∈ L, ∀ a' w', Left P B ds σ0 s0 w0 N (leafEnd ops M s0.next x).1 (leafEnd ops M s0.next x).2 a' w' → Q .normal a' w') :
    ∀ (fuel : Nat) (x : Leaf), x ∈ L → ∀ (listed : Array Bool) (a : Act) (w : World) (σ : Sg) (k : Nat) (s : St), DInv ds P B N ops M D T0 s0 x.2.1 x.2.2.2.1 x.2.2.2.2 σ0 w0 listed a w σ k s → unl ops.size listed ≤ fuel → wpAnyIn (FR ρ) 0 P .any ops Q fuel listed a w := by
  intro fuel
  induction fuel with
  | zero =>
    rintro ⟨Te, all, cur, E, R⟩ hx listed a w σ k s d hu
    have ran : Ran call P N ops M D T0 s0.next Te all cur E R := hran _ hx
    have hall : ∀ i, i < ops.size → listed.getD i false = true := fun i hi => by
      have h0 : unl ops.size listed = 0 := by omega
      have := List.countP_eq_zero.1 h0 i (List.mem_range.2 hi)
      simpa using this
    refine ⟨?_, hQ _ hx _ _ (draw_end ran d hall)⟩
    refine List.eq_nil_iff_forall_not_mem.2 fun i hi => ?_
    obtain ⟨h1, o, ho, _⟩ := mem_ready.1 hi
    have hin := (Array.getElem?_eq_some_iff.1 ho).1
    rw [getD_true_false (by rw [d.size]; exact hin), hall i hin] at h1
    cases h1
  | succ fuel ih =>
    rintro ⟨Te, all, cur, E, R⟩ hx listed a w σ k s d hu
    have ran : Ran call P N ops M D T0 s0.next Te all cur E R := hran _ hx
    refine ⟨fun h => hQ _ hx _ _ (draw_end ran d (all_listed d ran.st h)), fun i hi => ?_⟩
    obtain ⟨h1, o, ho, hall⟩ := mem_ready.1 hi
    have hin := (Array.getElem?_eq_some_iff.1 ho).1
    have hun : listed.getD i false = false := by rw [← getD_true_false (by rw [d.size]; exact hin)]; exact h1
    have hall : ∀ e ∈ o.after.toList, Region.binds .any e = true → listed.getD e.on false = true := fun e he hb => hall e (by simpa using he) hb
    have hu' : unl ops.size (listed.setIfInBounds i true) ≤ fuel := by have := unl_set hin d.size hun; omega
    obtain ⟨hN, T, hT, hf⟩ := ran.pi.seen i o hin ho
    have ht := looks_held ran d ho hun hall hT
    have hlk := restr_looks (ops := ops) T o
    have hw := wants_congr (ops := ops) o hlk
    have hop := ops_congr (ops := ops) o hlk
    unfold wpOpIn
    simp only [ho]
    cases hr : R.get i with
    | none => rw [hr] at hf; exact hf.elim
    | some rec =>
      rw [hr] at hf
      cases rec with
      | val v =>
        simp only [] at hf
        rcases hf with ⟨hf1, rfl⟩ | hf1
        · rw [← hw] at hf1
          rw [wants_ok ht hf1, if_neg (by simp)]
          exact ⟨fun _ _ => trivial, ih _ hx _ _ _ _ _ _ (come_val ran d ho hall hr (fun _ _ e => nomatch e) (fun _ e => nomatch e) hN (.tuple _ _ rfl (fun i v v' h => by simp at h))) hu'⟩
        · have hf1 := hf1.1
          have hq := ran.back i o v T ho hr hT hf1 k s d.stage (adm_now ran d ho hun hall)
          rw [← quiet_congr o.op hop] at hq
          have hi' : Inv P B σ s w := d.inv.drop (fun x ob hx => ?_) d.inv.dom
          · rw [← hw] at hf1
            rw [wants_ok ht hf1, if_pos rfl]
            obtain ⟨v', q1, q2⟩ := quiet_ok hi' ht hq
            refine wpIn_mk (fun c hc => by rw [hc] at hq; cases hq) ?_
            rw [q1]
            exact ih _ hx _ _ _ _ _ _ (come_val ran d ho hall hr (fun _ _ e => nomatch e) (fun _ e => nomatch e) hN q2) hu'
          · unfold HdH
            simp only []
            rcases rowsOf_cases (R := R) (n0 := s0.next) (c := fun l => listed.getD l false && !matd (E.take k) M l) (List.range ops.size) s.h x with ⟨q, u, ob', q1, rfl, q3, q4, q5⟩ | ⟨q1, q2⟩
            · simp only [Bool.and_eq_true, Bool.not_eq_true'] at q3
              rw [d.empty q u ob' q4 (List.mem_range.1 q1) q3.2] at hx
              cases hx
            · rw [q2]; exact hx
      | alc v ob =>
        simp only [] at hf
        obtain ⟨hf1, hf2⟩ := hf
        rw [← hw] at hf1
        rw [wants_ok ht hf1, if_pos rfl]
        rw [← alloc_congr o.op hop] at hf2
        obtain ⟨v', obj, q1, q2⟩ := alloc_ok ht hf2 w
        obtain ⟨q3, q4⟩ := q2 (σ.put (s0.next + i) w.heap.size 0) (Sg.le_put (d.fresh i hin hun)) (Sg.put_same ..)
        refine wpIn_mk (fun c hc => by rw [hc] at hf2; cases hf2) ?_
        rw [q1]
        exact ih _ hx _ _ _ _ _ _ (come_alc ran d ho hun hall hr hN q3 q4) hu'
      | frk b =>
        simp only [] at hf
        have hf1 := hf.1
        obtain ⟨u, hq, hunk⟩ := ran.part i o b T ho hr hT hf1 k s d.stage (adm_now ran d ho hun hall)
        rw [← quiet_congr o.op hop] at hq
        have hi' : Inv P B σ s w := d.inv.drop (fun x ob hx => ?_) d.inv.dom
        · rw [← hw] at hf1
          rw [wants_ok ht hf1, if_pos rfl]
          obtain ⟨v', q1, q2⟩ := quiet_ok hi' ht hq
          refine wpIn_mk (fun c hc => by rw [hc] at hq; cases hq) ?_
          rw [q1]
          obtain ⟨b', rfl⟩ := unk_bool hunk q2
          by_cases hbb : b' = b
          · subst hbb
            exact ih _ hx _ _ _ _ _ _ (come_val ran d ho hall hr (fun _ _ e => nomatch e) (fun _ e => nomatch e) hN (.bool b')) hu'
          · obtain ⟨⟨T9, all9, cur9, E9, R9⟩, hy, hyr, hag⟩ := hcl _ hx i b (Nat.zero_le _) hin hr
            have ran' : Ran call P N ops M D T0 s0.next T9 all9 cur9 E9 R9 := hran _ hy
            have hb2 : b' = !b := by cases b <;> cases b' <;> simp_all
            subst hb2
            exact ih _ hy _ _ _ _ _ _ (come_val ran' (d.move ran ran' hin hun hag).1 ho hall hyr (fun _ _ e => nomatch e) (fun _ e => nomatch e) hN (.bool _)) hu'
        · unfold HdH
          simp only []
          rcases rowsOf_cases (R := R) (n0 := s0.next) (c := fun l => listed.getD l false && !matd (E.take k) M l) (List.range ops.size) s.h x with ⟨q, u, ob', q1, rfl, q3, q4, q5⟩ | ⟨q1, q2⟩
          · simp only [Bool.and_eq_true, Bool.not_eq_true'] at q3
            rw [d.empty q u ob' q4 (List.mem_range.1 q1) q3.2] at hx
            cases hx
          · rw [q2]; exact hx
      | eff v =>
        simp only [] at hf
        obtain ⟨hf1, c, s1, s1', e1, e2, e3, e4, _⟩ := hf
        obtain ⟨T8, s8, Lo, f1, f2, e5, f4⟩ := hce _ hx c i o e1 (Nat.zero_le _) hin ho
        rw [← hw] at hf1
        rw [wants_ok ht hf1, if_pos rfl]
        have hck : c = k := by
          have h1 : ¬ c < k := fun h => by
            have := (d.effs c i e1).2 h
            rw [hun] at this; cases this
          by_cases h2 : k < c
          · have hcl := (List.getElem?_eq_some_iff.1 e1).1
            have hek : E[k]? = some E[k] := List.getElem?_eq_getElem (by omega)
            have hb := e4 k _ h2 hek
            have := ran.st.come (listed := fun j => listed.getD j false = true) d.closed i o ho hall _ hb
            have := (d.effs k _ hek).1 this
            omega
          · omega
        subst hck
        have h8 : s8 = s := by
          have := d.stage
          simp only [] at f2
          rw [f2] at this
          cases this; rfl
        subst h8
        have heq8 : ∀ t, T.get t = T8.get t := fun t => by rw [hT, f1]
        rw [← effL_congr (T := T) (T' := T8) o.op (ops_congr (ops := ops) o (fun t _ => heq8 t)), ← effL_congr o.op hop] at e5
        have hsubH : ∀ x ob, (rowsOf R s0.next (fun l => (M.getD i 0).testBit l && !matd (E.take c) M l) (rng ops i) s8.h).get x = some ob → (HdH R s0.next ops.size E M listed c s8).h.get x = some ob := by
          intro x ob hx
          rcases rowsOf_cases (R := R) (n0 := s0.next) (c := fun l => (M.getD i 0).testBit l && !matd (E.take c) M l) (rng ops i) s8.h x with ⟨q, u, ob', q1, rfl, q3, q4, q5⟩ | ⟨q1, q2⟩
          · rw [q5] at hx; cases hx
            simp only [Bool.and_eq_true] at q3
            have hql := ran.st.come (listed := fun j => listed.getD j false = true) d.closed i o ho hall q q3.1
            have hqi := rng_lt q1
            exact rowsOf_in _ _ q u _ (List.mem_range.2 (by omega)) (by simp only [Bool.and_eq_true]; exact ⟨hql, q3.2⟩) q4
          · rw [q2] at hx
            unfold HdH
            simp only []
            rcases rowsOf_cases (R := R) (n0 := s0.next) (c := fun l => listed.getD l false && !matd (E.take c) M l) (List.range ops.size) s8.h x with ⟨q, u, ob', p1, rfl, p3, p4, p5⟩ | ⟨p1, p2⟩
            · simp only [Bool.and_eq_true, Bool.not_eq_true'] at p3
              rw [d.empty q u ob' p4 (List.mem_range.1 p1) p3.2] at hx
              cases hx
            · rw [p2]; exact hx
        have hi' : Inv P B σ ⟨s8.next, rowsOf R s0.next (fun l => (M.getD i 0).testBit l && !matd (E.take c) M l) (rng ops i) s8.h⟩ w := d.inv.drop hsubH d.inv.dom
        refine effL_ok hcall hi' ht e5 fun z hz v' τ w' q1 q2 => ?_
        rcases f4 z hz with ⟨p1, p2⟩ | ⟨⟨T9, all9, cur9, E9, R9⟩, hy, p1, p3, p2, hag⟩
        · exact ih _ hx _ _ _ _ _ _ (come_eff ran d ho hall p1 hN e1 p2 rfl hsubH q2 q1) hu'
        · simp only [] at p1 p2 p3
          have ran' : Ran call P N ops M D T0 s0.next T9 all9 cur9 E9 R9 := hran _ hy
          obtain ⟨d', m1, m2⟩ := d.move ran ran' hin hun hag
          have hHd : HdH R9 s0.next ops.size E9 M listed c s8 = HdH R s0.next ops.size E M listed c s8 := by
            unfold HdH
            rw [m2]
            congr 1
            refine rowsOf_congr2 _ _ (fun _ _ => rfl) fun q hq hc => ?_
            rw [Bool.and_eq_true] at hc
            exact (m1 q (List.mem_range.1 hq) hc.1).symm
          refine ih _ hy _ _ _ _ _ _ (come_eff ran' d' ho hall p1 hN p3 p2 (H' := ⟨s8.next, rowsOf R s0.next (fun l => (M.getD i 0).testBit l && !matd (E.take c) M l) (rng ops i) s8.h⟩) ?_ (by rw [hHd]; exact hsubH) q2 q1) hu'
          congr 1
          rw [m2]
          refine (rowsOf_congr2 _ _ (fun _ _ => rfl) fun q hq hc => ?_).symm
          rw [Bool.and_eq_true] at hc
          have hql := ran.st.come (listed := fun j => listed.getD j false = true) d.closed i o ho hall q hc.1
          have hqi := rng_lt hq
          exact (m1 q (by omega) hql).symm
end
theorem passT_spec {P : Program} {ops : Array Oper} {M : List Nat} {D : Tr Nat} {T0 : Tr Value} {all : List St} {E : List Nat} {R : Tr Rec} (st : Stat ops M D) : ∀ (l : List Oper) (i : Nat) (T : Tr Value), (∀ k, l[k]? = ops[i + k]?) → (∀ t, T.get t = TAt D R T0 i t) → passT P ops M all E R l i T = true → ∀ (k : Nat) (o : Oper) (v : Value) (T' : Tr Value), l[k]? = some o → R.get (i + k) = some (.val v) → (∀ t, T'.get t = TAt D R T0 (i + k) t) → wants ops T' o = some true → free o.op = false → ∀ (j : Nat) (s : St), all[j]? = some s → adm E M (i + k) j = true → quiet P o.op T' s.h = some v
  | [], i, _, _, _, _, k, o, v, _, hk, _, _, _, _ => by simp at hk
  | p :: r, i, T, hl, hT, h, k, o, v, T', hk, hr, hT', hw, hfr => by
    unfold passT at h
    have ho : ops[i]? = some p := by have := hl 0; simpa using this.symm
    split at h
    · rename_i rec hrec
      simp only [Bool.and_eq_true] at h
      cases k with
      | zero =>
        simp at hk; subst hk
        intro j s hj ha
        have h1 := h.1
        rw [Nat.add_zero] at hr ha hT'
        have heq : ∀ t, T.get t = T'.get t := fun t => by rw [hT, hT']
        rw [hr] at hrec
        cases hrec
        rw [wants_congr (T := T) (T' := T') p (fun t _ => heq t)] at h1
        simp only [hfr, Bool.false_or, hw] at h1
        rw [List.all_eq_true] at h1
        have h2 := h1 (s, j) (by rw [List.mem_zipIdx_iff_getElem?]; exact hj)
        simp only [ha, Bool.not_true, Bool.false_or] at h2
        split at h2
        · rename_i u hu
          rw [quiet_congr (T := T) (T' := T') p.op (ops_congr (ops := ops) p (fun t _ => heq t))] at hu
          rw [hu, veq_eq _ _ _ h2]
        · cases h2
      | succ k =>
        rw [show i + (k + 1) = i + 1 + k by omega] at hr hT' ⊢
        exact passT_spec st r (i + 1) _ (fun k => by have := hl (k + 1); rw [show i + 1 + k = i + (k + 1) by omega]; simpa using this) (TAt_next st hT ho hrec) h.2 k o v T' (by simpa using hk) hr hT' hw hfr
    · cases h
theorem passT_part {P : Program} {ops : Array Oper} {M : List Nat} {D : Tr Nat} {T0 : Tr Value} {all : List St} {E : List Nat} {R : Tr Rec} (st : Stat ops M D) : ∀ (l : List Oper) (i : Nat) (T : Tr Value), (∀ k, l[k]? = ops[i + k]?) → (∀ t, T.get t = TAt D R T0 i t) → passT P ops M all E R l i T = true → ∀ (k : Nat) (o : Oper) (b : Bool) (T' : Tr Value), l[k]? = some o → R.get (i + k) = some (.frk b) → (∀ t, T'.get t = TAt D R T0 (i + k) t) → wants ops T' o = some true → ∀ (j : Nat) (s : St), all[j]? = some s → adm E M (i + k) j = true → ∃ u, quiet P o.op T' s.h = some u ∧ isUnk u = true
  | [], i, _, _, _, _, k, o, v, _, hk, _, _, _ => by simp at hk
  | p :: r, i, T, hl, hT, h, k, o, v, T', hk, hr, hT', hw => by
    unfold passT at h
    have ho : ops[i]? = some p := by have := hl 0; simpa using this.symm
    split at h
    · rename_i rec hrec
      simp only [Bool.and_eq_true] at h
      cases k with
      | zero =>
        simp at hk; subst hk
        intro j s hj ha
        have h1 := h.1
        rw [Nat.add_zero] at hr ha hT'
        have heq : ∀ t, T.get t = T'.get t := fun t => by rw [hT, hT']
        rw [hr] at hrec
        cases hrec
        simp only [] at h1
        rw [List.all_eq_true] at h1
        have h2 := h1 (s, j) (by rw [List.mem_zipIdx_iff_getElem?]; exact hj)
        simp only [ha, Bool.not_true, Bool.false_or] at h2
        split at h2
        · rename_i u hu
          rw [quiet_congr (T := T) (T' := T') p.op (ops_congr (ops := ops) p (fun t _ => heq t))] at hu
          exact ⟨u, hu, h2⟩
        · cases h2
      | succ k =>
        rw [show i + (k + 1) = i + 1 + k by omega] at hr hT' ⊢
        exact passT_part st r (i + 1) _ (fun k => by have := hl (k + 1); rw [show i + 1 + k = i + (k + 1) by omega]; simpa using this) (TAt_next st hT ho hrec) h.2 k o v T' (by simpa using hk) hr hT' hw
    · cases h
theorem draw_ok (P : Program) : DrawOK P (drawS P) := by
  intro B call hcall N id ops T s L h ρ ds σ w a Q hi ht hQ
  unfold drawS at h
  split at h
  · rename_i M D hst
    have st := statS_spec hst
    split at h
    · rename_i hm
      split at h
      · rename_i L0 hp
        split at h
        · rename_i hb
          rw [Bool.and_eq_true] at hb
          cases h
          have start : PInv call P N ops M D T s.next 0 T [⟨s.next + ops.size, s.h⟩] ⟨s.next + ops.size, s.h⟩ [] .leaf :=
            ⟨fun t => by unfold TAt; split <;> simp, fun j o hj => absurd hj (Nat.not_lt_zero _), rfl, rfl, fun c e he => by simp at he, fun c c' e he => by simp at he⟩
          obtain ⟨p0, pc, pe⟩ := passS_spec st ops.toList 0 T _ _ [] .leaf L0 (fun k => by simp) start hp
          rw [Nat.zero_add, Array.length_toList] at p0 pc pe
          have hran : ∀ x ∈ L0, Ran call P N ops M D T s.next x.1 x.2.1 x.2.2.1 x.2.2.2.1 x.2.2.2.2 := fun x hx => by
            have hb := List.all_eq_true.1 hb.2 x hx
            obtain ⟨T', all, cur, E, R⟩ := x
            obtain ⟨p1, _, _, _⟩ := p0 _ hx
            simp only [] at p1
            unfold leafOK at hb
            simp only [] at hb
            exact ⟨st, p1, fun i o v T1 ho hr hT hw k s1 hk ha => by
              cases hfr : free o.op with
              | true =>
                obtain ⟨_, T2, hT2, hf⟩ := p1.seen i o (Array.getElem?_eq_some_iff.1 ho).1 ho
                rw [hr] at hf
                have heq : ∀ t, T2.get t = T1.get t := fun t => by rw [hT2, hT]
                rcases hf with ⟨hf, _⟩ | ⟨_, c, s2, _, hq⟩
                · rw [wants_congr (T := T2) (T' := T1) o (fun t _ => heq t), hw] at hf
                  cases hf
                · rw [quiet_congr (T := T2) (T' := T1) o.op (ops_congr (ops := ops) o (fun t _ => heq t)), quiet_free s2.h s1.h o.op hfr] at hq
                  exact hq
              | false =>
                have := passT_spec (D := D) (T0 := T) st _ 0 T (fun k => by simp) (fun t => by unfold TAt; split <;> simp) hb i o v T1 (by simpa using ho) (by rw [Nat.zero_add]; exact hr) (by rw [Nat.zero_add]; exact hT) hw hfr k s1 hk (by rw [Nat.zero_add]; exact ha)
                exact this, fun i o b T1 ho hr hT hw k s1 hk ha =>
              passT_part (D := D) (T0 := T) st _ 0 T (fun k => by simp) (fun t => by unfold TAt; split <;> simp) hb i o b T1 (by simpa using ho) (by rw [Nat.zero_add]; exact hr) (by rw [Nat.zero_add]; exact hT) hw k s1 hk (by rw [Nat.zero_add]; exact ha)⟩
          have hne : ∃ x, x ∈ L0 := by
            cases L0 with
            | nil => cases hb.1
            | cons x l => exact ⟨x, List.mem_cons_self⟩
          obtain ⟨x0, hx0⟩ := hne
          obtain ⟨Te, all, cur, E, R⟩ := x0
          obtain ⟨p1, ⟨a2, p2⟩, _, _⟩ := p0 _ hx0
          simp only [] at p1 p2
          have p2 : all[0]? = some ⟨s.next + ops.size, s.h⟩ := by rw [p2]; rfl
          refine wpIn_region_any hm ?_
          have hn0 : ∀ l, l < ops.size → (Array.replicate ops.size false).getD l false = false := fun l hl => by simp [hl]
          have hn1 : ∀ l, (Array.replicate ops.size false).getD l false = true → False := fun l hl => by
            by_cases h : l < ops.size
            · rw [hn0 l h] at hl; cases hl
            · simp [h] at hl
          have hget : ∀ x, (HdH R s.next ops.size E M (Array.replicate ops.size false) 0 ⟨s.next + ops.size, s.h⟩).h.get x = s.h.get x := by
            intro x
            unfold HdH
            simp only []
            rw [rowsOf_out]
            intro q hq he hc
            rw [Bool.and_eq_true] at hc
            exact absurd hc.1 (fun h => hn1 q h)
          have hnew : ∀ x, s.next ≤ x → s.h.get x = none := fun x hx => by
            cases hc : s.h.get x with
            | none => rfl
            | some o =>
              obtain ⟨b, κ, q1, _⟩ := hi.live x o hc
              rw [hi.dom x hx] at q1; cases q1
          have hiw : Inv P B σ s { w with drawn := w.drawn + 1 } := ⟨hi.base.drew, hi.own, hi.dom, hi.live, hi.inj⟩
          refine draw_any hcall hran pc pe (s0 := s) (σ0 := σ) (w0 := w) (B := B) (fun x hx => hQ _ (List.mem_map.2 ⟨x, hx, rfl⟩)) ops.size _ hx0 _ a _ σ 0 ⟨s.next + ops.size, s.h⟩ ?_ ?_
          · refine ⟨by simp, fun j o _ hj => (hn1 j hj).elim, p2, fun c e he => ⟨fun h => (hn1 e h).elim, fun h => absurd h (Nat.not_lt_zero _)⟩, hiw.drop (fun x o hx => by rw [hget] at hx; exact hx) (fun x hx => hi.dom x (by have : s.next + ops.size ≤ x := hx; omega)), fun l v ob _ hl _ => hnew _ (by omega), Nat.le_refl _, fun x hx hn => hn, rfl, fun y _ => rfl, fun l hl _ => hi.dom _ (by omega), ⟨rfl, rfl, rfl, Nat.le_refl _, fun _ _ _ => rfl⟩, fun b hb hf => ?_, ⟨ht.size, ht.defers, fun t v h => nomatch h⟩, fun t v hv => ?_⟩
            · obtain ⟨x, o, κ, h1, h2⟩ := hf
              rw [hget] at h1
              exact ⟨x, o, κ, h1, h2⟩
            · unfold TD at hv
              split at hv
              · split at hv
                · exact (hn1 _ ‹_›).elim
                · exact ht.at_ t v hv
              · exact ht.at_ t v hv
          · have := List.countP_le_length (p := fun j => !(Array.replicate ops.size false).getD j false) (l := List.range ops.size)
            simpa [unl] using this
        · cases h
      · cases h
    · cases h
  · cases h
end
end Go.Proofs.YtimlldedpbbeoaaGreat
